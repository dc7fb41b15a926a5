/- Plain laws of Check, and the walk of the document's Check. -/
import Derived.Test.YtflbbpmlcllamaaRefN
namespace Go.Proofs.Ytflbbpmlcllamaa
open Go.RowKit Go.Lib Go.Maps

/-! The dashes at both ends. -/
theorem dec_45 (s : ByteArray) (pos : Nat) (h : pos < s.size) : (Utf8.decode s pos).1 = 45 ↔ (s[pos]'h).toNat = 45 := by
  by_cases h1 : (s[pos]'h).toNat < 128
  · rw [decode_ascii s pos h h1]
  · have := decode_high s pos h (by omega)
    omega
theorem dec_cont (s : ByteArray) (pos j : Nat) (_ : pos < s.size) (h1 : 1 ≤ j) (h2 : j < (Utf8.decode s pos).2) : ∃ hp : pos + j < s.size, 128 ≤ (s[pos + j]'hp).toNat := by
  have hc : ∀ k, (decide (pos + k < s.size) && (s.get! (pos + k)).toNat / 64 == 2) = true → ∃ hp : pos + k < s.size, 128 ≤ (s[pos + k]'hp).toNat := by
    intro k hk
    simp only [Bool.and_eq_true, decide_eq_true_eq, beq_iff_eq] at hk
    refine ⟨hk.1, ?_⟩
    have := get_bang s (pos + k) hk.1
    rw [this] at hk
    omega
  unfold Utf8.decode at h2
  simp only [Nat.add_zero] at h2
  split at h2
  · simp at h2; omega
  · split at h2
    · rename_i hh
      simp only [Bool.and_eq_true] at hh
      split at h2
      · obtain rfl : j = 1 := by simp at h2; omega
        exact hc 1 (by simpa using hh.2)
      · simp at h2; omega
    · split at h2
      · rename_i hh
        simp only [Bool.and_eq_true] at hh
        split at h2
        · rcases (show j = 1 ∨ j = 2 by simp at h2; omega) with rfl | rfl
          · exact hc 1 (by simpa using hh.1.2)
          · exact hc 2 (by simpa using hh.2)
        · simp at h2; omega
      · split at h2
        · rename_i hh
          simp only [Bool.and_eq_true] at hh
          split at h2
          · rcases (show j = 1 ∨ j = 2 ∨ j = 3 by simp at h2; omega) with rfl | rfl | rfl
            · exact hc 1 (by simpa using hh.1.1.2)
            · exact hc 2 (by simpa using hh.1.2)
            · exact hc 3 (by simpa using hh.2)
          · simp at h2; omega
        · simp at h2; omega

theorem last_45 (s : ByteArray) (h0 : 0 < s.size) : ∀ f pos, s.size ≤ pos + f → pos < s.size → ((runesFrom s f pos).getLast? = some 45 ↔ (s[s.size - 1]'(by omega)).toNat = 45)
  | 0, pos, h, hp => by omega
  | f + 1, pos, h, hp => by
    have hw := Lib.decode_width_pos s pos hp
    rw [runesFrom_step s f pos hp]
    by_cases hn : pos + (Utf8.decode s pos).2 < s.size
    · have ih := last_45 s h0 f (pos + (Utf8.decode s pos).2) (by omega) hn
      rw [List.getLast?_cons]
      have hne : runesFrom s f (pos + (Utf8.decode s pos).2) ≠ [] := by
        obtain ⟨m, rfl⟩ : ∃ m, f = m + 1 := ⟨f - 1, by omega⟩
        rw [runesFrom_step s m _ hn]; simp
      rw [← ih]
      cases hl : (runesFrom s f (pos + (Utf8.decode s pos).2)).getLast? with
      | none => exact absurd (List.getLast?_eq_none_iff.1 hl) hne
      | some x => simp
    · rw [runesFrom_end s f _ hn]
      by_cases hj : pos = s.size - 1
      · subst hj
        have := dec_45 s (s.size - 1) hp
        simp
        omega
      · obtain ⟨hq, hge⟩ := dec_cont s pos (s.size - 1 - pos) hp (by omega) (by omega)
        have e : pos + (s.size - 1 - pos) = s.size - 1 := by omega
        simp only [e] at hge
        constructor
        · intro h
          have h45 : (Utf8.decode s pos).1 = 45 := by simp at h; omega
          have hb := (dec_45 s pos hp).1 h45
          have := decode_ascii s pos hp (by omega)
          rw [this] at hn
          simp at hn
          omega
        · intro h; omega

def dashL (l : List Int) : Prop := l.length = 0 ∨ l.getD 0 0 = 45 ∨ l.getD (l.length - 1) 0 = 45
theorem dash_plain (s : ByteArray) : dashB s = true ↔ dashL (runes s) := by
  unfold dashB dashL
  rw [decide_eq_true_eq]
  by_cases h0 : s.size = 0
  · have : runes s = [] := by unfold runes; rw [runesFrom_end s _ _ (by omega)]
    rw [this]
    simp [h0]
  · have hp : 0 < s.size := by omega
    have hl := last_45 s hp s.size 0 (by omega) hp
    have hd := dec_45 s 0 hp
    have he : runes s = ((Utf8.decode s 0).1 : Int) :: runesFrom s (s.size - 1) (0 + (Utf8.decode s 0).2) := by
      have : runes s = runesFrom s (s.size - 1 + 1) 0 := by unfold runes; congr 1; omega
      rw [this, runesFrom_step s _ 0 hp]
    have hlen : (runes s).length ≠ 0 := by rw [he]; simp
    have h1 : (runes s).getD 0 0 = ((Utf8.decode s 0).1 : Int) := by rw [he]; rfl
    have h2 : (runes s).getLast? = some ((runes s).getD ((runes s).length - 1) 0) := by
      rw [List.getLast?_eq_getElem?, List.getD_eq_getElem?_getD, List.getElem?_eq_getElem (by omega)]; rfl
    have h3 : (runes s).getLast? = some 45 ↔ (s[s.size - 1]'(by omega)).toNat = 45 := hl
    rw [h2] at h3
    simp only [Option.some.injEq] at h3
    rw [get_bang s 0 hp, get_bang s (s.size - 1) (by omega), h1, h3]
    constructor
    · rintro (h | h | h)
      · omega
      · exact .inr (.inl (by have := hd.2 h; omega))
      · exact .inr (.inr h)
    · rintro (h | h | h)
      · exact absurd h hlen
      · exact .inr (.inl (hd.1 (by omega)))
      · exact .inr (.inr h)

/-! One script. -/
def NoMix (l : List Int) : Prop := ∀ x ∈ l, ∀ y ∈ l, ofV x ≠ 0 → ofV y ≠ 0 → ofV x = ofV y
def firstNZ : List Int → Int
  | [] => 0
  | r :: l => if ofV r = 0 then firstNZ l else ofV r
theorem fst_50 : ∀ (l : List Int) (sc : Int), (∀ r ∈ l, badR r = false) → (fstGo sc 50 l).2 = 50
  | [], _, _ => rfl
  | r :: l, sc, h => by
    have h1 := h r (List.mem_cons_self ..)
    have h2 : ∀ x ∈ l, badR x = false := fun x hx => h x (List.mem_cons_of_mem _ hx)
    unfold fstGo
    rw [if_neg (by simp [h1])]
    split
    · exact fst_50 l _ h2
    · split
      · exact fst_50 l _ h2
      · exact fst_50 l _ h2
def One (sc : Int) (l : List Int) : Prop := NoMix l ∧ (sc ≠ 0 → ∀ r ∈ l, ofV r ≠ 0 → ofV r = sc)
theorem fst_one : ∀ (l : List Int) (sc : Int), (∀ r ∈ l, badR r = false) → (One sc l → fstGo sc 0 l = (if sc = 0 then firstNZ l else sc, 0)) ∧ (¬ One sc l → (fstGo sc 0 l).2 = 50)
  | [], sc, _ => ⟨fun _ => by unfold fstGo firstNZ; split <;> simp_all, fun h => absurd ⟨fun x hx => by simp at hx, fun _ r hr => by simp at hr⟩ h⟩
  | r :: l, sc, h => by
    have h1 := h r (List.mem_cons_self ..)
    have h2 : ∀ x ∈ l, badR x = false := fun x hx => h x (List.mem_cons_of_mem _ hx)
    have hcons : NoMix (r :: l) ↔ NoMix l ∧ (ofV r ≠ 0 → ∀ y ∈ l, ofV y ≠ 0 → ofV y = ofV r) := by
      constructor
      · intro hm
        exact ⟨fun x hx y hy => hm x (List.mem_cons_of_mem _ hx) y (List.mem_cons_of_mem _ hy), fun hr y hy hy0 => hm y (List.mem_cons_of_mem _ hy) r (List.mem_cons_self ..) hy0 hr⟩
      · rintro ⟨hm, hr⟩ x hx y hy hx0 hy0
        rcases List.mem_cons.1 hx with ex | hx' <;> rcases List.mem_cons.1 hy with ey | hy'
        · rw [ex, ey]
        · rw [ex] at hx0 ⊢; exact (hr hx0 y hy' hy0).symm
        · rw [ey] at hy0 ⊢; exact hr hy0 x hx' hx0
        · exact hm x hx' y hy' hx0 hy0
    unfold fstGo
    rw [if_neg (by simp [h1])]
    by_cases hs : sc = 0
    · subst hs
      have ih := fst_one l (ofV r) h2
      have hiff : One 0 (r :: l) ↔ One (ofV r) l := by
        unfold One
        rw [hcons]
        simp
      rw [if_pos rfl, hiff]
      refine ⟨fun ho => ?_, ih.2⟩
      rw [ih.1 ho, if_pos rfl, firstNZ]
    · rw [if_neg hs]
      by_cases hr : ofV r ≠ 0 ∧ ofV r ≠ sc
      · rw [if_pos hr]
        refine ⟨fun ho => absurd (ho.2 hs r (List.mem_cons_self ..) hr.1) hr.2, fun _ => fst_50 l sc h2⟩
      · rw [if_neg hr]
        have ih := fst_one l sc h2
        have hiff : One sc (r :: l) ↔ One sc l := by
          unfold One
          rw [hcons]
          constructor
          · rintro ⟨⟨a, b⟩, c⟩
            exact ⟨a, fun hs x hx => c hs x (List.mem_cons_of_mem _ hx)⟩
          · rintro ⟨a, c⟩
            refine ⟨⟨a, fun hr0 y hy hy0 => ?_⟩, fun _ x hx hx0 => ?_⟩
            · have := c hs y hy hy0
              omega
            · rcases List.mem_cons.1 hx with rfl | hx
              · omega
              · exact c hs x hx hx0
        rw [hiff]
        refine ⟨fun ho => ?_, ih.2⟩
        rw [ih.1 ho, if_neg hs, if_neg hs]

/-- What is wrong with a text, from its runes. -/
theorem check_long {s : ByteArray} (h : 24 < (runes s).length) : checkV s = 5 := by unfold checkV firstV; rw [if_pos h]
theorem check_dash {s : ByteArray} (h : (runes s).length ≤ 24) (h2 : dashL (runes s)) : checkV s = 7 := by unfold checkV firstV; rw [if_neg (by omega), if_pos ((dash_plain s).2 h2)]
theorem check_rest {s : ByteArray} (h : (runes s).length ≤ 24) (h2 : ¬ dashL (runes s)) : checkV s = (fstGo 0 0 (runes s)).2 := by
  unfold checkV firstV
  rw [if_neg (by omega), if_neg (fun e => h2 ((dash_plain s).1 e))]
  split
  · rename_i h; rw [h]
  · rfl
theorem check_bad {s : ByteArray} (h : (runes s).length ≤ 24) (h2 : ¬ dashL (runes s)) (h3 : ∃ r ∈ runes s, badR r = true) : checkV s = 7 := by rw [check_rest h h2, fst_bad _ _ _ h3]
theorem check_mix {s : ByteArray} (h : (runes s).length ≤ 24) (h2 : ¬ dashL (runes s)) (h3 : ∀ r ∈ runes s, badR r = false) (h4 : ¬ NoMix (runes s)) : checkV s = 50 := by
  rw [check_rest h h2]; exact (fst_one _ 0 h3).2 (fun e => h4 e.1)
theorem check_ok {s : ByteArray} (h : (runes s).length ≤ 24) (h2 : ¬ dashL (runes s)) (h3 : ∀ r ∈ runes s, badR r = false) (h4 : NoMix (runes s)) : checkV s = 0 := by
  rw [check_rest h h2, (fst_one _ 0 h3).1 ⟨h4, fun e => absurd rfl e⟩]
theorem script_ok {s : ByteArray} (h : checkV s = 0) : scriptV s = firstNZ (runes s) := by
  by_cases h1 : (runes s).length ≤ 24
  · by_cases h2 : dashL (runes s)
    · rw [check_dash h1 h2] at h; omega
    · have h3 := check_good h
      by_cases h4 : NoMix (runes s)
      · unfold scriptV firstV
        rw [if_neg (by omega), if_neg (fun e => h2 ((dash_plain s).1 e)), (fst_one _ 0 h3).1 ⟨h4, fun e => absurd rfl e⟩]
        simp
      · rw [check_mix h1 h2 h3 h4] at h; omega
  · rw [check_long (by omega)] at h; omega
theorem script_off {s : ByteArray} (h : checkV s ≠ 0) : scriptV s = 0 := by
  unfold checkV firstV at h
  unfold scriptV firstV
  split at h
  · rename_i h1; rw [if_pos h1]
  · rename_i h1
    split at h
    · rename_i h2; rw [if_neg h1, if_pos h2]
    · rename_i h2
      split at h
      · simp at h
      · rename_i h3; rw [if_neg h1, if_neg h2, if_neg h3]
end Go.Proofs.Ytflbbpmlcllamaa
