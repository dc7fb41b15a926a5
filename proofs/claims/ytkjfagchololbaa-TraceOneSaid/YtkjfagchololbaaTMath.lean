/- The plain law of TraceOne: what a run of actions comes to. -/
import Derived.Test.YtkjfagchololbaaTRun
import Derived.Test.YtkjfagchololbaaOneMath
namespace Go.Proofs.Ytkjfagchololbaa
open Go.RowKit

theorem in_zero' (j : Nat) (hj : j < 8) : inB 0 (j : Int) = false := by
  have : j = 0 ∨ j = 1 ∨ j = 2 ∨ j = 3 ∨ j = 4 ∨ j = 5 ∨ j = 6 ∨ j = 7 := by omega
  rcases this with rfl | rfl | rfl | rfl | rfl | rfl | rfl | rfl <;> decide

/-- Is an action marked in a row? -/
def mkB (r : Row) (x : Act') : Bool := if x.kind = 1 then r.begun else if x.kind = 2 then inB r.voted x.org else if x.kind = 3 then r.decided else inB r.learnt x.org
/-- What is known of an action that was done. -/
structure Done (x : Act') : Prop where
  k : x.kind = 1 ∨ x.kind = 2 ∨ x.kind = 3 ∨ x.kind = 4
  g : x.kind = 2 ∨ x.kind = 4 → 0 ≤ x.org ∧ x.org ≤ 7

theorem can_mk {bad : Int} {r : Row} {a : Act'} (hr : RowOk r) (ha : Done a) (h : canB bad r a = true) : mkB r a = false := by
  unfold canB at h
  unfold mkB
  rcases ha.k with e | e | e | e
  · rw [if_pos e] at h ⊢
    rw [Bool.and_eq_true] at h
    simpa using h.1
  · rw [if_neg (by omega), if_pos e] at h ⊢
    obtain ⟨k, hk, e2⟩ := nat_of (ha.g (.inl e))
    rw [e2] at h ⊢
    rw [Bool.and_eq_true, in_or hr.v hr.l k hk] at h
    cases hx : inB r.voted k
    · rfl
    · rw [hx] at h; simp at h
  · rw [if_neg (by omega), if_neg (by omega), if_pos e]
    exact can3 e h
  · rw [if_neg (by omega), if_neg (by omega), if_neg (by omega)] at h ⊢
    simp only [Bool.and_eq_true] at h
    simpa using h.1.1.2

theorem mk_self {r : Row} {a : Act'} (hr : RowOk r) (ha : Done a) : mkB (doR r a) a = true := by
  unfold mkB doR
  rcases ha.k with e | e | e | e
  · rw [if_pos e, if_pos e]; rfl
  · rw [if_neg (by omega), if_pos e, if_neg (by omega), if_pos e]
    obtain ⟨k, hk, e2⟩ := nat_of (ha.g (.inl e))
    show inB (addB r.voted a.org) a.org = true
    rw [e2]
    exact add_self hr.v k hk
  · rw [if_neg (by omega), if_neg (by omega), if_pos e, if_neg (by omega), if_neg (by omega), if_pos e]; rfl
  · rw [if_neg (by omega), if_neg (by omega), if_neg (by omega), if_neg (by omega), if_neg (by omega), if_neg (by omega)]
    obtain ⟨k, hk, e2⟩ := nat_of (ha.g (.inr e))
    show inB (addB r.learnt a.org) a.org = true
    rw [e2]
    exact add_self hr.l k hk

theorem add_mono {s k : Int} (hs : Byte s) (hk : 0 ≤ k ∧ k ≤ 7) {x : Int} (hx : 0 ≤ x ∧ x ≤ 7) (h : inB s x = true) : inB (addB s k) x = true := by
  obtain ⟨k', hk', rfl⟩ := nat_of hk
  obtain ⟨x', hx', rfl⟩ := nat_of hx
  rw [in_add hs k' hk' x' hx', h]
  rfl

theorem mk_mono {r : Row} {a x : Act'} (hr : RowOk r) (ha : Done a) (hx : Done x) (h : mkB r x = true) : mkB (doR r a) x = true := by
  rcases ha.k with e | e | e | e
  · rw [show doR r a = beginR r a by unfold doR; rw [if_pos e]]
    unfold mkB at h ⊢
    rcases hx.k with f | f | f | f
    · rw [if_pos f]; rfl
    · rw [if_neg (by omega), if_pos f] at h ⊢; exact h
    · rw [if_neg (by omega), if_neg (by omega), if_pos f] at h ⊢; exact h
    · rw [if_neg (by omega), if_neg (by omega), if_neg (by omega)] at h ⊢; exact h
  · rw [show doR r a = voteR r a by unfold doR; rw [if_neg (by omega), if_pos e]]
    unfold mkB at h ⊢
    rcases hx.k with f | f | f | f
    · rw [if_pos f] at h ⊢; exact h
    · rw [if_neg (by omega), if_pos f] at h ⊢; exact add_mono hr.v (ha.g (.inl e)) (hx.g (.inl f)) h
    · rw [if_neg (by omega), if_neg (by omega), if_pos f] at h ⊢; exact h
    · rw [if_neg (by omega), if_neg (by omega), if_neg (by omega)] at h ⊢; exact h
  · rw [show doR r a = decideR r a by unfold doR; rw [if_neg (by omega), if_neg (by omega), if_pos e]]
    unfold mkB at h ⊢
    rcases hx.k with f | f | f | f
    · rw [if_pos f] at h ⊢; exact h
    · rw [if_neg (by omega), if_pos f] at h ⊢; exact h
    · rw [if_neg (by omega), if_neg (by omega), if_pos f]; rfl
    · rw [if_neg (by omega), if_neg (by omega), if_neg (by omega)] at h ⊢; exact h
  · rw [show doR r a = learnR r a by unfold doR; rw [if_neg (by omega), if_neg (by omega), if_neg (by omega)]]
    unfold mkB at h ⊢
    rcases hx.k with f | f | f | f
    · rw [if_pos f] at h ⊢; exact h
    · rw [if_neg (by omega), if_pos f] at h ⊢; exact h
    · rw [if_neg (by omega), if_neg (by omega), if_pos f] at h ⊢; exact h
    · rw [if_neg (by omega), if_neg (by omega), if_neg (by omega)] at h ⊢; exact add_mono hr.l (ha.g (.inr e)) (hx.g (.inr f)) h

theorem yes_do {r : Row} {a : Act'} (hr : RowOk r) (ha : Done a) (j : Nat) (hj : j < 8) (h : inB (doR r a).yes (j : Int) = true) : inB r.yes (j : Int) = true ∨ a.kind = 2 ∧ a.org = (j : Int) ∧ a.yes = true := by
  unfold doR at h
  rcases ha.k with e | e | e | e
  · rw [if_pos e] at h; exact .inl h
  · rw [if_neg (by omega), if_pos e] at h
    unfold voteR at h
    dsimp only at h
    split at h
    · rename_i hy
      obtain ⟨k, hk, e2⟩ := nat_of (ha.g (.inl e))
      rw [e2, in_add hr.y k hk j hj, Bool.or_eq_true] at h
      rcases h with h | h
      · exact .inl h
      · have : j = k := by simpa using h
        exact .inr ⟨e, by rw [e2, this], hy⟩
    · exact .inl h
  · rw [if_neg (by omega), if_neg (by omega), if_pos e] at h; exact .inl h
  · rw [if_neg (by omega), if_neg (by omega), if_neg (by omega)] at h; exact .inl h

structure TInv (bad : Int) (rs : List Row) (D : List Act') : Prop where
  l : LInv bad rs D
  w : ∀ x ∈ D, Done x
  dn : ∀ x ∈ D, ∃ r ∈ rs, r.t = x.t ∧ mkB r x = true
  ys : ∀ r ∈ rs, ∀ j : Nat, j < 8 → inB r.yes (j : Int) = true → ∃ y ∈ D, y.t = r.t ∧ y.kind = 2 ∧ y.org = (j : Int) ∧ y.yes = true

/-- What a new action may not be, and must have. -/
structure NewOk (D : List Act') (a : Act') : Prop where
  one : ∀ x ∈ D, x.t = a.t → ¬ (x.kind = a.kind ∧ x.org = a.org)
  dec : ∀ x ∈ D, x.t = a.t → decK x = true → decK a = true → x.yes = a.yes
  yes : a.kind = 4 → a.yes = true → ∃ y ∈ D, y.t = a.t ∧ y.kind = 2 ∧ y.org = a.org ∧ y.yes = true

theorem mk_same {r : Row} {x a : Act'} (h1 : x.kind = a.kind) (h2 : x.org = a.org) : mkB r x = mkB r a := by
  unfold mkB; rw [h1, h2]

theorem can4_yes {bad : Int} {r : Row} {a : Act'} (hk : a.kind = 4) (hy : a.yes = true) (h : canB bad r a = true) : inB r.yes a.org = true := by
  unfold canB at h
  rw [if_neg (by omega), if_neg (by omega), if_neg (by omega)] at h
  simp only [Bool.and_eq_true] at h
  have := h.2
  rw [hy] at this
  simpa using this

theorem TInv.step {bad : Int} (hb : Byte bad) {rs : List Row} {D : List Act'} {a : Act'} (h : TInv bad rs D) (ha : ActWf a) (hv : mayV bad rs a = 0) : TInv bad (putR rs a) (D ++ [a]) ∧ NewOk D a := by
  obtain ⟨l', _, _, hdec⟩ := h.l.step hb ha hv
  have hd : Done a := ⟨mayV_kind hv, mayV_org hv⟩
  have hc := mayV_can hv
  have hwm : ∀ x ∈ D ++ [a], Done x := fun x hx => by
    rcases List.mem_append.1 hx with hx | hx
    · exact h.w x hx
    · rw [List.mem_singleton.1 hx]; exact hd
  cases hp : placeOf rs a.t with
  | some k =>
    obtain ⟨r, hr, hrt⟩ := place_some hp
    have hmem : r ∈ rs := List.mem_of_getElem? hr
    have hok := (h.l.rows r hmem).ok
    have hro : rowOf rs a.t = r := by rw [rowOf, hp]; simp [List.getD_eq_getElem?_getD, hr]
    have hput : putR rs a = rs.set k (doR r a) := by unfold putR; rw [hp]; simp [List.getD_eq_getElem?_getD, hr]
    rw [hro] at hc
    have hkl : k < rs.length := (List.getElem?_eq_some_iff.1 hr).1
    have hnew : doR r a ∈ rs.set k (doR r a) := List.mem_of_getElem? (List.getElem?_set_self hkl)
    have hother : ∀ r' ∈ rs, r'.t ≠ r.t → r' ∈ rs.set k (doR r a) := fun r' hr' hne => by
      obtain ⟨j, hj⟩ := List.mem_iff_getElem?.1 hr'
      have hjk : j ≠ k := fun e => by
        subst e
        rw [hr] at hj; cases hj
        exact hne rfl
      exact List.mem_of_getElem? (by rw [List.getElem?_set_ne (Ne.symm hjk)]; exact hj)
    refine ⟨⟨l', hwm, ?_, ?_⟩, ?_, fun x hx ht hx3 ha3 => hdec x hx hx3 ha3 ht, ?_⟩
    · rw [hput]
      intro x hx
      rcases List.mem_append.1 hx with hx | hx
      · obtain ⟨r', hr', ht, hm⟩ := h.dn x hx
        by_cases hsame : r'.t = r.t
        · have := mem_unique h.l.nodup hr' hmem hsame
          subst this
          exact ⟨_, hnew, (doR_t _ _).trans ht, mk_mono hok hd (h.w x hx) hm⟩
        · exact ⟨r', hother r' hr' hsame, ht, hm⟩
      · rw [List.mem_singleton.1 hx]
        exact ⟨_, hnew, (doR_t _ _).trans hrt, mk_self hok hd⟩
    · rw [hput]
      intro r' hr' j hj hy
      rcases List.mem_or_eq_of_mem_set hr' with hr' | rfl
      · obtain ⟨y, hy1, hy2⟩ := h.ys r' hr' j hj hy
        exact ⟨y, List.mem_append_left _ hy1, hy2⟩
      · rcases yes_do hok hd j hj hy with h1 | ⟨h1, h2, h3⟩
        · obtain ⟨y, hy1, hy2, hy3⟩ := h.ys r hmem j hj h1
          exact ⟨y, List.mem_append_left _ hy1, hy2.trans (doR_t _ _).symm, hy3⟩
        · exact ⟨a, by simp, (hrt.symm.trans (doR_t _ _).symm), h1, h2, h3⟩
    · rintro x hx ht ⟨hk, ho⟩
      obtain ⟨r', hr', ht', hm⟩ := h.dn x hx
      have := mem_unique h.l.nodup hr' hmem (ht'.trans (ht.trans hrt.symm))
      subst this
      rw [mk_same hk ho, can_mk hok hd hc] at hm
      cases hm
    · intro hk hy
      obtain ⟨j, hj, ej⟩ := nat_of (hd.g (.inr hk))
      have h1 := can4_yes hk hy hc
      rw [ej] at h1
      obtain ⟨y, hy1, hy2, hy3, hy4, hy5⟩ := h.ys r hmem j hj h1
      exact ⟨y, hy1, hy2.trans hrt, hy3, hy4.trans ej.symm, hy5⟩
  | none =>
    have hro : rowOf rs a.t = freshR a.t := by rw [rowOf, hp]
    have hput : putR rs a = rs ++ [doR (freshR a.t) a] := by unfold putR; rw [hp]
    rw [hro] at hc
    have hok : RowOk (freshR a.t) := freshR_ok ha.t
    have hft : (freshR a.t).t = a.t := rfl
    refine ⟨⟨l', hwm, ?_, ?_⟩, ?_, fun x hx ht hx3 ha3 => hdec x hx hx3 ha3 ht, ?_⟩
    · rw [hput]
      intro x hx
      rcases List.mem_append.1 hx with hx | hx
      · obtain ⟨r', hr', hh⟩ := h.dn x hx
        exact ⟨r', List.mem_append_left _ hr', hh⟩
      · rw [List.mem_singleton.1 hx]
        exact ⟨_, by simp, (doR_t _ _).trans hft, mk_self hok hd⟩
    · rw [hput]
      intro r' hr' j hj hy
      rcases List.mem_append.1 hr' with hr' | hr'
      · obtain ⟨y, hy1, hy2⟩ := h.ys r' hr' j hj hy
        exact ⟨y, List.mem_append_left _ hy1, hy2⟩
      · rw [List.mem_singleton.1 hr'] at hy ⊢
        rcases yes_do hok hd j hj hy with h1 | ⟨h1, h2, h3⟩
        · rw [show (freshR a.t).yes = 0 from rfl, in_zero' j hj] at h1; cases h1
        · exact ⟨a, by simp, (hft.symm.trans (doR_t _ _).symm), h1, h2, h3⟩
    · rintro x hx ht ⟨hk, ho⟩
      obtain ⟨r', hr', ht', _⟩ := h.dn x hx
      exact place_none hp r' hr' (ht'.trans ht)
    · intro hk hy
      obtain ⟨j, hj, ej⟩ := nat_of (hd.g (.inr hk))
      have h1 := can4_yes hk hy hc
      rw [ej, show (freshR a.t).yes = 0 from rfl, in_zero' j hj] at h1
      cases h1

theorem TInv.nil (bad : Int) : TInv bad [] [] := ⟨LInv.nil bad, by simp, by simp, by simp⟩

/-- Of a row of actions, each fits what was done ahead of it. -/
def AllNew (A : List Act') : Prop := ∀ (i : Nat) (a : Act'), A[i]? = some a → NewOk (A.take i) a

theorem run_new {bad : Int} (hb : Byte bad) : ∀ (l : List (Nat × Act')) (rs : List Row) (D : List Act') (rs' : List Row), (∀ x ∈ l, ActWf x.2) → TInv bad rs D → AllNew D → runT bad rs l = .inl rs' → AllNew (D ++ l.map (·.2))
  | [], _, D, _, _, _, hA, _ => by simpa using hA
  | x :: l, rs, D, rs', hw, hT, hA, hr => by
    simp only [runT] at hr
    split at hr
    · rename_i hv
      obtain ⟨hT', hN⟩ := hT.step hb (hw x (by simp)) hv
      have hA' : AllNew (D ++ [x.2]) := by
        intro i a hi
        by_cases h : i < D.length
        · rw [List.getElem?_append_left h] at hi
          rw [List.take_append_of_le_length (by omega)]
          exact hA i a hi
        · have hil := (List.getElem?_eq_some_iff.1 hi).1
          simp at hil
          have : i = D.length := by omega
          subst this
          rw [List.getElem?_append_right (by omega)] at hi
          simp at hi
          subst hi
          rw [List.take_left]
          exact hN
      have := run_new hb l _ _ rs' (fun y hy => hw y (by simp [hy])) hT' hA' hr
      simpa using this
    · cases hr
end Go.Proofs.Ytkjfagchololbaa
