/- Plain laws of the order of names. -/
import Derived.Test.YtflbbpmlcllamaaLong
import Derived.Test.YtflbbpmlcllamaaOrder
namespace Go.Proofs.Ytflbbpmlcllamaa
open Go.RowKit Go.Lib Go.Maps

theorem cmpL_refl : ∀ l, cmpL l l = 0
  | [] => rfl
  | a :: l => by rw [cmpL, if_neg (by omega), if_neg (by omega)]; exact cmpL_refl l
theorem cmpL_neg : ∀ l m, cmpL m l = - cmpL l m
  | [], [] => rfl
  | [], _ :: _ => rfl
  | _ :: _, [] => rfl
  | a :: l, b :: m => by
    unfold cmpL
    have ih := cmpL_neg l m
    by_cases h : a < b
    · rw [if_neg (show ¬ b < a by omega), if_pos h, if_pos h]; rfl
    · by_cases h2 : b < a
      · rw [if_pos h2, if_neg h, if_pos h2]
      · rw [if_neg h2, if_neg h, if_neg h, if_neg h2, ih]
theorem cmpL_bd : ∀ l m, cmpL l m = -1 ∨ cmpL l m = 0 ∨ cmpL l m = 1
  | [], [] => .inr (.inl rfl)
  | [], _ :: _ => .inl rfl
  | _ :: _, [] => .inr (.inr rfl)
  | a :: l, b :: m => by
    unfold cmpL
    have ih := cmpL_bd l m
    by_cases h : a < b
    · rw [if_pos h]; exact .inl rfl
    · by_cases h2 : b < a
      · rw [if_neg h, if_pos h2]; exact .inr (.inr rfl)
      · rw [if_neg h, if_neg h2]; exact ih
theorem cmpL_eq : ∀ l m, cmpL l m = 0 → l = m
  | [], [], _ => rfl
  | [], _ :: _, h => by simp [cmpL] at h
  | _ :: _, [], h => by simp [cmpL] at h
  | a :: l, b :: m, h => by
    unfold cmpL at h
    by_cases h1 : a < b
    · rw [if_pos h1] at h; omega
    · by_cases h2 : b < a
      · rw [if_neg h1, if_pos h2] at h; omega
      · rw [if_neg h1, if_neg h2] at h
        rw [cmpL_eq l m h, show a = b by omega]
theorem cmpL_trans : ∀ l m n, cmpL l m < 0 → cmpL m n < 0 → cmpL l n < 0
  | [], [], _, h, _ => by simp [cmpL] at h
  | [], _ :: _, [], _, h => by simp [cmpL] at h
  | [], _ :: _, _ :: _, _, _ => by simp [cmpL]
  | _ :: _, [], _, h, _ => by simp [cmpL] at h
  | _ :: _, _ :: _, [], _, h => by simp [cmpL] at h
  | a :: l, b :: m, c :: n, h1, h2 => by
    have ih := cmpL_trans l m n
    unfold cmpL at h1 h2 ⊢
    by_cases hac : a < c
    · rw [if_pos hac]; omega
    · by_cases hab : a < b
      · rw [if_neg (show ¬ b < c by omega)] at h2
        rw [if_pos (show c < b by omega)] at h2
        omega
      · by_cases hba : b < a
        · rw [if_neg hab, if_pos hba] at h1; omega
        · rw [if_neg hab, if_neg hba] at h1
          obtain rfl : a = b := by omega
          by_cases hca : c < a
          · rw [if_neg hac, if_pos hca] at h2; omega
          · rw [if_neg hac, if_neg hca] at h2 ⊢
            exact ih h1 h2

/-! Runes that are one or two bytes. -/
def Lo (r : Int) : Prop := 0 ≤ r ∧ r < 2048
def encB (r : Int) : List UInt8 := if r < 128 then [UInt8.ofNat r.toNat] else [UInt8.ofNat (192 + r.toNat / 64), UInt8.ofNat (128 + r.toNat % 64)]

theorem dec_lo (s : ByteArray) (pos : Nat) (h : pos < s.size) (hl : (Utf8.decode s pos).1 < 2048) : s.data.toList.drop pos = encB (Utf8.decode s pos).1 ++ s.data.toList.drop (pos + (Utf8.decode s pos).2) := by
  have hd : s.data.toList.drop pos = s[pos] :: s.data.toList.drop (pos + 1) := by
    have : pos < s.data.toList.length := by simpa using h
    rw [List.drop_eq_getElem_cons this]; rfl
  have hb := (s[pos]'h).toNat_lt
  have hg := get_bang s pos h
  by_cases h1 : (s[pos]'h).toNat < 128
  · rw [decode_ascii s pos h h1]
    show _ = encB ((s[pos]'h).toNat : Int) ++ _
    rw [encB, if_pos (by omega), hd]
    simp
  · unfold Utf8.decode at hl ⊢
    simp only [Nat.add_zero, hg, h1, if_false] at hl ⊢
    split at hl
    · rename_i hc
      rw [if_pos hc]
      simp only [Bool.and_eq_true, beq_iff_eq, decide_eq_true_eq] at hc
      obtain ⟨h6, h7, h8⟩ := hc
      have hg1 := get_bang s (pos + 1) h7
      rw [hg1] at h8 hl ⊢
      split at hl
      · rename_i hge
        rw [if_pos hge]
        have hd1 : s.data.toList.drop (pos + 1) = s[pos + 1] :: s.data.toList.drop (pos + 2) := by
          have : pos + 1 < s.data.toList.length := by simpa using h7
          rw [List.drop_eq_getElem_cons this]; rfl
        have hb1 := (s[pos + 1]'h7).toNat_lt
        have e1 : 192 + (((s[pos]'h).toNat % 32 * 64 + (s[pos + 1]'h7).toNat % 64 : Nat)) / 64 = (s[pos]'h).toNat := by omega
        have e2 : 128 + (((s[pos]'h).toNat % 32 * 64 + (s[pos + 1]'h7).toNat % 64 : Nat)) % 64 = (s[pos + 1]'h7).toNat := by omega
        show _ = encB ((((s[pos]'h).toNat % 32 * 64 + (s[pos + 1]'h7).toNat % 64 : Nat)) : Int) ++ _
        rw [encB, if_neg (by omega), hd, hd1, Int.toNat_natCast, e1, e2]
        simp
      · simp [Utf8.runeError] at hl
    · exfalso
      split at hl
      · split at hl
        · rename_i hv
          simp at hv
          simp at hl
          omega
        · simp [Utf8.runeError] at hl
      · split at hl
        · split at hl
          · rename_i hv
            simp at hv
            simp at hl
            omega
          · simp [Utf8.runeError] at hl
        · simp [Utf8.runeError] at hl

theorem runes_back (s : ByteArray) : ∀ f pos, s.size ≤ pos + f → (∀ r ∈ runesFrom s f pos, Lo r) → s.data.toList.drop pos = (runesFrom s f pos).flatMap encB
  | 0, pos, h, _ => by rw [List.drop_of_length_le (by simpa using h)]; rfl
  | f + 1, pos, h, hl => by
    by_cases hp : pos < s.size
    · rw [runesFrom_step s f pos hp] at hl ⊢
      have h1 := hl _ (List.mem_cons_self ..)
      have hw := Lib.decode_width_pos s pos hp
      rw [dec_lo s pos hp (by unfold Lo at h1; omega), runes_back s f _ (by omega) (fun r hr => hl r (List.mem_cons_of_mem _ hr))]
      rfl
    · rw [runesFrom_end s _ _ hp, List.drop_of_length_le (by simpa using hp)]; rfl
theorem runes_inj {a b : ByteArray} (ha : ∀ r ∈ runes a, Lo r) (h : runes a = runes b) : a = b := by
  have h1 := runes_back a a.size 0 (by omega) ha
  have h2 := runes_back b b.size 0 (by omega) (by unfold runes at h ha; rw [← h]; exact ha)
  unfold runes at h
  rw [← h, ← h1] at h2
  cases a; cases b
  simp at h2
  simp [h2]
theorem encode_lo {r : Int} (h : Lo r) : (Utf8.encode r).data.toList = encB r := by
  unfold Lo at h
  have hv : Utf8.valid r = true := by unfold Utf8.valid; simp; omega
  unfold Utf8.encode encB
  simp only [hv, if_true]
  by_cases h1 : r < 128
  · rw [if_pos (by omega), if_pos h1]
  · rw [if_neg (by omega), if_pos (by omega), if_neg h1]
theorem bytes_fold : ∀ (l : List Int) (s : ByteArray), (∀ r ∈ l, Lo r) → (l.foldl (fun r n => r ++ Utf8.encode n) s).data.toList = s.data.toList ++ l.flatMap encB
  | [], s, _ => by simp
  | r :: l, s, h => by
    rw [List.foldl_cons, bytes_fold l _ (fun x hx => h x (List.mem_cons_of_mem _ hx)), ByteArray.data_append, Array.toList_append, encode_lo (h r (List.mem_cons_self ..))]
    simp
theorem u8_ofNat (n : Nat) (h : n < 256) : (UInt8.ofNat n).toNat = n := by simp; omega
theorem u8_inj {n m : Nat} (hn : n < 256) (hm : m < 256) (h : UInt8.ofNat n = UInt8.ofNat m) : n = m := by
  have := congrArg UInt8.toNat h
  rwa [u8_ofNat n hn, u8_ofNat m hm] at this
theorem encB_inj : ∀ (l m : List Int), (∀ r ∈ l, Lo r) → (∀ r ∈ m, Lo r) → l.flatMap encB = m.flatMap encB → l = m
  | [], [], _, _, _ => rfl
  | [], b :: m, _, _, h => by
    rw [List.flatMap_cons] at h
    unfold encB at h
    split at h <;> simp at h
  | a :: l, [], _, _, h => by
    rw [List.flatMap_cons] at h
    unfold encB at h
    split at h <;> simp at h
  | a :: l, b :: m, hl, hm, h => by
    have ha := hl a (List.mem_cons_self ..)
    have hb := hm b (List.mem_cons_self ..)
    unfold Lo at ha hb
    have ih := encB_inj l m (fun x hx => hl x (List.mem_cons_of_mem _ hx)) (fun x hx => hm x (List.mem_cons_of_mem _ hx))
    rw [List.flatMap_cons, List.flatMap_cons] at h
    by_cases h1 : a < 128
    · by_cases h2 : b < 128
      · rw [encB, if_pos h1, encB, if_pos h2] at h
        simp only [List.cons_append, List.nil_append, List.cons.injEq] at h
        have := u8_inj (by omega) (by omega) h.1
        rw [ih h.2, show a = b by omega]
      · rw [encB, if_pos h1, encB, if_neg h2] at h
        simp only [List.cons_append, List.nil_append, List.cons.injEq] at h
        have := u8_inj (by omega) (by omega) h.1
        omega
    · by_cases h2 : b < 128
      · rw [encB, if_neg h1, encB, if_pos h2] at h
        simp only [List.cons_append, List.nil_append, List.cons.injEq] at h
        have := u8_inj (by omega) (by omega) h.1
        omega
      · rw [encB, if_neg h1, encB, if_neg h2] at h
        simp only [List.cons_append, List.nil_append, List.cons.injEq] at h
        have e1 := u8_inj (by omega) (by omega) h.1
        have e2 := u8_inj (by omega) (by omega) h.2.1
        rw [ih h.2.2, show a = b by omega]
theorem bytes_inj {l m : List Int} (hl : ∀ r ∈ l, Lo r) (hm : ∀ r ∈ m, Lo r) (h : runesBytes l = runesBytes m) : l = m := by
  have h1 := bytes_fold l ByteArray.empty hl
  have h2 := bytes_fold m ByteArray.empty hm
  unfold runesBytes at h
  rw [h] at h1
  exact encB_inj l m hl hm (by simpa using h1.symm.trans h2)

/-! The runes of a name. -/
theorem fst_bad : ∀ (l : List Int) (sc e : Int), (∃ r ∈ l, badR r = true) → (fstGo sc e l).2 = 7
  | [], _, _, h => by simp at h
  | r :: l, sc, e, h => by
    unfold fstGo
    by_cases hb : badR r = true
    · rw [if_pos hb]
    · rw [if_neg hb]
      have h' : ∃ x ∈ l, badR x = true := by
        obtain ⟨x, hx, hxb⟩ := h
        rcases List.mem_cons.1 hx with rfl | hx
        · exact absurd hxb hb
        · exact ⟨x, hx, hxb⟩
      split
      · exact fst_bad l _ _ h'
      · split
        · exact fst_bad l _ _ h'
        · exact fst_bad l _ _ h'
theorem check_good {s : ByteArray} (h : checkV s = 0) : ∀ r ∈ runes s, badR r = false := by
  intro r hr
  by_cases hb : badR r = true
  · have := fst_bad (runes s) 0 0 ⟨r, hr, hb⟩
    unfold checkV firstV at h
    split at h
    · simp at h
    · split at h
      · simp at h
      · rw [this] at h
        simp at h
  · simpa using hb
theorem good_lo {r : Int} (h : badR r = false) : Lo r := by
  unfold badR at h
  unfold ofV at h
  simp at h
  unfold Lo
  repeat' split at h
  all_goals omega
theorem look_lo {r : Int} (h : Lo r) : Lo (lookV r) := by
  unfold lookV
  cases hf : lookF r with
  | none => simpa using h
  | some v =>
    obtain ⟨p, hp, e⟩ := fR_mem _ r v hf
    have := (looks_plain p hp).2
    unfold Lo
    simp
    omega
theorem name_lo {s : ByteArray} (h : checkV s = 0) : ∀ r ∈ runes s, Lo r := fun r hr => good_lo (check_good h r hr)
theorem nameL_lo {s : ByteArray} (h : checkV s = 0) : ∀ r ∈ lookL s, Lo r := by
  intro r hr
  obtain ⟨x, hx, rfl⟩ := List.mem_map.1 hr
  exact look_lo (name_lo h x hx)

/-! Order's laws. -/
theorem order_bd (a b : ByteArray) : orderV a b = -1 ∨ orderV a b = 0 ∨ orderV a b = 1 := by
  unfold orderV
  split
  · split
    · exact cmpL_bd _ _
    · exact cmpL_bd _ _
  · exact .inr (.inl rfl)
theorem order_neg (a b : ByteArray) : orderV b a = - orderV a b := by
  unfold orderV
  by_cases h : checkV a = 0 ∧ checkV b = 0
  · rw [if_pos h, if_pos ⟨h.2, h.1⟩, cmpL_neg (lookL a) (lookL b), cmpL_neg (runes a) (runes b)]
    by_cases h2 : cmpL (lookL a) (lookL b) = 0
    · rw [if_pos h2, if_pos (by omega)]
    · rw [if_neg h2, if_neg (by omega)]
  · rw [if_neg h, if_neg (fun e => h ⟨e.2, e.1⟩)]; rfl
theorem order_zero {a b : ByteArray} (ha : checkV a = 0) (hb : checkV b = 0) : orderV a b = 0 ↔ a = b := by
  unfold orderV
  rw [if_pos ⟨ha, hb⟩]
  constructor
  · intro h
    split at h
    · exact runes_inj (name_lo ha) (cmpL_eq _ _ h)
    · rename_i h2
      exact absurd h h2
  · rintro rfl
    rw [if_pos (cmpL_refl _), cmpL_refl]
theorem order_lt {a b : ByteArray} (ha : checkV a = 0) (hb : checkV b = 0) : orderV a b < 0 ↔ cmpL (lookL a) (lookL b) < 0 ∨ (lookL a = lookL b ∧ cmpL (runes a) (runes b) < 0) := by
  unfold orderV
  rw [if_pos ⟨ha, hb⟩]
  by_cases h : cmpL (lookL a) (lookL b) = 0
  · rw [if_pos h]
    constructor
    · intro h2; exact .inr ⟨cmpL_eq _ _ h, h2⟩
    · rintro (h2 | ⟨_, h2⟩)
      · omega
      · exact h2
  · rw [if_neg h]
    constructor
    · exact .inl
    · rintro (h2 | ⟨h2, _⟩)
      · exact h2
      · rw [h2, cmpL_refl] at h; omega
theorem order_trans {a b c : ByteArray} (ha : checkV a = 0) (hb : checkV b = 0) (hc : checkV c = 0) (h1 : orderV a b < 0) (h2 : orderV b c < 0) : orderV a c < 0 := by
  rw [order_lt ha hb] at h1
  rw [order_lt hb hc] at h2
  rw [order_lt ha hc]
  rcases h1 with h1 | ⟨e1, h1⟩
  · rcases h2 with h2 | ⟨e2, h2⟩
    · exact .inl (cmpL_trans _ _ _ h1 h2)
    · rw [← e2]; exact .inl h1
  · rcases h2 with h2 | ⟨e2, h2⟩
    · rw [e1]; exact .inl h2
    · exact .inr ⟨e1.trans e2, cmpL_trans _ _ _ h1 h2⟩
theorem order_le {a b c : ByteArray} (ha : checkV a = 0) (hb : checkV b = 0) (hc : checkV c = 0) (h1 : orderV a b ≤ 0) (h2 : orderV b c ≤ 0) : orderV a c ≤ 0 := by
  by_cases e1 : orderV a b = 0
  · rw [(order_zero ha hb).1 e1]; exact h2
  · by_cases e2 : orderV b c = 0
    · rw [← (order_zero hb hc).1 e2]; exact h1
    · have := order_trans ha hb hc (by omega) (by omega)
      omega
theorem order_mid {a b c : ByteArray} (ha : checkV a = 0) (hb : checkV b = 0) (hc : checkV c = 0) (h1 : orderV a b < 0) (h2 : orderV b c < 0) (h : clashV a c = true) : clashV a b = true ∧ clashV b c = true := by
  have hab : a ≠ b := fun e => by have := (order_zero ha hb).2 e; omega
  have hbc : b ≠ c := fun e => by have := (order_zero hb hc).2 e; omega
  rw [clashV_iff] at h
  obtain ⟨_, _, _, he⟩ := h
  have el : lookL a = lookL c := by
    rw [skS, if_pos ha, skS, if_pos hc] at he
    exact bytes_inj (nameL_lo ha) (nameL_lo hc) he
  rw [order_lt ha hb] at h1
  rw [order_lt hb hc] at h2
  have e1 : lookL a = lookL b := by
    rcases h1 with h1 | ⟨e, _⟩
    · rcases h2 with h2 | ⟨e, _⟩
      · have := cmpL_trans _ _ _ h1 h2
        rw [el, cmpL_refl] at this
        omega
      · rw [e, el]
    · exact e
  have s1 : skS a = skS b := by rw [skS, if_pos ha, skS, if_pos hb, e1]
  exact ⟨(clashV_iff a b).2 ⟨ha, hb, hab, s1⟩, (clashV_iff b c).2 ⟨hb, hc, hbc, s1.symm.trans he⟩⟩
theorem order_off {a b : ByteArray} (h : checkV a ≠ 0) : orderV a b = 0 := by rw [orderV, if_neg (fun e => h e.1)]
theorem order_is (a b : ByteArray) (v : Int) (w : World) (ha : a.size ≤ 1024) (hb : b.size ≤ 1024) (h : orderV a b = v) : Calls Try.prog 19 #[.string a, .string b] w fun e w' => e = .returned (.int .i64 v) ∧ Below w.heap.size w w' := h ▸ order_any a b w ha hb
theorem check_is (s : ByteArray) (v : Int) (w : World) (hs : s.size ≤ 1024) (h : checkV s = v) : Calls Try.prog 11 #[.string s] w fun e w' => e = .returned (.int .i64 v) ∧ Below w.heap.size w w' := h ▸ check_any s w hs
end Go.Proofs.Ytflbbpmlcllamaa
