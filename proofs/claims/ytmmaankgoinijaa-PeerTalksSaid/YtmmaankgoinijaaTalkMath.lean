/- Plain laws of two peers that talk: what is on its way is near, and was not taken. -/
import Derived.Test.YtmmaankgoinijaaWinMath
namespace Go.Proofs.Ytmmaankgoinijaa

/-- How many were stamped when step i begins. -/
def sent (i len : Nat) : Int := ((min i len : Nat) : Int)

structure TInv (i len : Nat) (way took : List Int) (t g : Int) : Prop where
  win : WInv t g took
  srt : way.Pairwise (· < ·)
  bnd : ∀ n ∈ way, 1 ≤ n ∧ n ≤ sent i len ∧ sent i len - 40 ≤ n
  dis : ∀ n ∈ way, n ∉ took
  tk : ∀ n ∈ took, n ≤ sent i len
  len7 : i ≤ len → way.length = min i 7

structure MInv (i len : Nat) (way took : List Int) (t g : Int) : Prop where
  win : WInv t g took
  srt : way.Pairwise (· < ·)
  bnd : ∀ n ∈ way, 1 ≤ n ∧ n ≤ sent (i + 1) len ∧ sent (i + 1) len - 41 ≤ n ∧ (len ≤ i → sent (i + 1) len - 40 ≤ n)
  dis : ∀ n ∈ way, n ∉ took
  tk : ∀ n ∈ took, n ≤ sent (i + 1) len
  len8 : i < len → way.length = min i 7 + 1

theorem sent_lt {i len : Nat} (h : i < len) : sent i len = i ∧ sent (i + 1) len = i + 1 := by
  unfold sent
  rw [Nat.min_eq_left (by omega), Nat.min_eq_left (by omega)]
  exact ⟨rfl, rfl⟩
theorem sent_ge {i len : Nat} (h : len ≤ i) : sent i len = len ∧ sent (i + 1) len = len := by
  unfold sent
  rw [Nat.min_eq_right (by omega), Nat.min_eq_right (by omega)]
  exact ⟨rfl, rfl⟩

theorem TInv.zero (len : Nat) : TInv 0 len [] [] 0 0 := by
  refine ⟨WInv.zero, List.Pairwise.nil, by simp, by simp, by simp, by simp⟩

theorem TInv.stamp {i len : Nat} {way took : List Int} {t g : Int} (h : TInv i len way took t g) (hl : i < len) : MInv i len (way ++ [(i : Int) + 1]) took t g := by
  obtain ⟨e1, e2⟩ := sent_lt hl
  refine ⟨h.win, ?_, fun n hn => ?_, fun n hn => ?_, fun n hn => ?_, fun _ => ?_⟩
  · rw [List.pairwise_append]
    refine ⟨h.srt, by simp, fun a ha b hb => ?_⟩
    have := (h.bnd a ha).2.1
    simp at hb
    omega
  · rw [e2]
    rcases List.mem_append.1 hn with hn | hn
    · have := h.bnd n hn
      rw [e1] at this
      exact ⟨this.1, by omega, by omega, by omega⟩
    · simp at hn
      subst hn
      exact ⟨by omega, by omega, by omega, by omega⟩
  · rcases List.mem_append.1 hn with hn | hn
    · exact h.dis n hn
    · simp at hn
      subst hn
      intro hm
      have := h.tk _ hm
      omega
  · have := h.tk n hn
    omega
  · have := h.len7 (by omega)
    simp [this]

theorem TInv.idle {i len : Nat} {way took : List Int} {t g : Int} (h : TInv i len way took t g) (hl : len ≤ i) : MInv i len way took t g := by
  obtain ⟨e1, e2⟩ := sent_ge hl
  refine ⟨h.win, h.srt, fun n hn => ?_, h.dis, fun n hn => ?_, fun hh => by omega⟩
  · have := h.bnd n hn
    rw [e1] at this
    rw [e2]
    exact ⟨this.1, this.2.1, by omega, fun _ => this.2.2⟩
  · have := h.tk n hn
    omega

/-- Nothing is taken, as less than eight are on their way. -/
theorem MInv.wait {i len : Nat} {way took : List Int} {t g : Int} (h : MInv i len way took t g) (hw : (i < len ∧ way.length < 8) ∨ way = []) : TInv (i + 1) len way took t g := by
  refine ⟨h.win, h.srt, fun n hn => ?_, h.dis, h.tk, fun hl => ?_⟩
  · have := h.bnd n hn
    rcases hw with ⟨hl, hw⟩ | hw
    · have h8 := h.len8 hl
      obtain ⟨e1, e2⟩ := sent_lt hl
      exact ⟨this.1, this.2.1, by omega⟩
    · rw [hw] at hn
      simp at hn
  · rcases hw with ⟨hl', hw⟩ | hw
    · have h8 := h.len8 hl'
      omega
    · have h8 := h.len8 (by omega)
      rw [hw] at h8
      simp at h8

theorem MInv.near {i len : Nat} {way took : List Int} {t g : Int} (h : MInv i len way took t g) {n : Int} (hn : n ∈ way) (hle : len ≤ 200) : 1 ≤ n ∧ n ≤ 65535 ∧ t - n < 64 ∧ mayV t g n = 0 ∧ mayV (nxtT t g n) (nxtG t g n) n = 9 := by
  have hb := h.bnd n hn
  have hs : sent (i + 1) len ≤ 200 := by unfold sent; omega
  have ht : t ≤ sent (i + 1) len := by
    rcases h.win.top with ht | ht
    · have : 0 ≤ sent (i + 1) len := by unfold sent; omega
      omega
    · exact h.tk t ht
  have h0 : mayV t g n = 0 := by rw [h.win.may hb.1 (by omega), if_neg (by omega), if_neg (h.dis n hn)]
  refine ⟨hb.1, by omega, by omega, h0, ?_⟩
  have hadd := h.win.add h0
  rw [hadd.may hb.1 (by omega), if_neg, if_pos (by simp)]
  have := hadd.t1
  have hT : nxtT t g n = n ∨ nxtT t g n = t := by
    unfold nxtT
    split
    · exact .inl rfl
    · exact .inr rfl
  omega

theorem MInv.pick {i len : Nat} {way took : List Int} {t g : Int} (h : MInv i len way took t g) (k : Nat) (hk : k < way.length) (hle : len ≤ 200)
    (hc : i < len → ((i : Int) - 40 < way.getD 0 0 ∨ k = 0)) (hf : i < len → 8 ≤ way.length) :
    TInv (i + 1) len (way.eraseIdx k) (took ++ [way.getD k 0]) (nxtT t g (way.getD k 0)) (nxtG t g (way.getD k 0)) := by
  have hget : way.getD k 0 = way[k] := by rw [List.getD_eq_getElem?_getD, List.getElem?_eq_getElem hk]; rfl
  have hn : way.getD k 0 ∈ way := by rw [hget]; exact List.getElem_mem _
  obtain ⟨n1, n2, n3, n4, _⟩ := h.near hn hle
  have hsub : ∀ m, m ∈ way.eraseIdx k → m ∈ way := fun m hm => (List.eraseIdx_sublist way k).subset hm
  refine ⟨h.win.add n4, h.srt.sublist (List.eraseIdx_sublist way k), fun m hm => ?_, fun m hm => ?_, fun m hm => ?_, fun hl => ?_⟩
  · have hb := h.bnd m (hsub m hm)
    refine ⟨hb.1, hb.2.1, ?_⟩
    by_cases hl : i < len
    · obtain ⟨e1, e2⟩ := sent_lt hl
      rw [e2]
      have h0 : 0 < way.length := by omega
      have hg0 : way.getD 0 0 = way[0] := by rw [List.getD_eq_getElem?_getD, List.getElem?_eq_getElem h0]; rfl
      obtain ⟨j, hj, hje⟩ := List.getElem_of_mem (hsub m hm)
      have hsrt : ∀ a b (ha : a < way.length) (hb : b < way.length), a < b → way[a] < way[b] := List.pairwise_iff_getElem.1 h.srt
      rcases hc hl with hc | hc
      · rw [hg0] at hc
        by_cases hj0 : j = 0
        · subst hj0
          omega
        · have := hsrt 0 j h0 hj (by omega)
          omega
      · subst hc
        have hb0 := h.bnd (way[0]) (List.getElem_mem _)
        rw [e2] at hb0
        cases way with
        | nil => simp at h0
        | cons a l =>
          simp only [List.eraseIdx_zero, List.tail_cons] at hm
          have hp := (List.pairwise_cons.1 h.srt).1 m hm
          simp only [List.getElem_cons_zero] at hb0
          omega
    · exact hb.2.2.2 (by omega)
  · have hd := h.dis m (hsub m hm)
    intro hh
    rcases List.mem_append.1 hh with hh | hh
    · exact hd hh
    · simp only [List.mem_singleton] at hh
      rw [List.mem_eraseIdx_iff_getElem] at hm
      obtain ⟨j, hj, hjk, hje⟩ := hm
      have hsrt : ∀ a b (ha : a < way.length) (hb : b < way.length), a < b → way[a] < way[b] := List.pairwise_iff_getElem.1 h.srt
      rw [hget] at hh
      rcases Nat.lt_or_gt_of_ne hjk with hlt | hgt
      · have := hsrt j k hj hk hlt
        omega
      · have := hsrt k j hk hj hgt
        omega
  · rcases List.mem_append.1 hm with hm | hm
    · exact h.tk m hm
    · simp only [List.mem_singleton] at hm
      rw [hm]
      exact (h.bnd _ hn).2.1
  · have h8 := h.len8 (by omega)
    have hf' := hf (by omega)
    rw [List.length_eraseIdx, if_pos hk]
    omega
end Go.Proofs.Ytmmaankgoinijaa
