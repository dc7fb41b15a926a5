/- The plain law of LedgerSwaps: two actions of unlike transactions come to the same in either order. -/
import Derived.Test.YtliakamlgjoabaaLRest
import Derived.Test.YtliakamlgjoabaaLRun
namespace Go.Proofs.Ytliakamlgjoabaa

def look (rs : List Row) (t : Txn) : Option Row := rs.find? fun r => r.t == t

theorem look_place (rs : List Row) (t : Txn) : look rs t = (placeOf rs t).bind fun k => rs[k]? := by
  unfold look placeOf
  induction rs with
  | nil => rfl
  | cons x rs ih =>
    rw [List.find?_cons, List.findIdx?_cons]
    cases hx : (x.t == t)
    · simp only [ih]
      cases List.findIdx? (fun r => r.t == t) rs <;> rfl
    · rfl

theorem rowOf_look (rs : List Row) (t : Txn) : rowOf rs t = (look rs t).getD (freshR t) := by
  rw [look_place]
  unfold rowOf
  cases h : placeOf rs t with
  | none => rfl
  | some k =>
    obtain ⟨r, hr, _⟩ := place_some h
    simp [List.getD_eq_getElem?_getD, hr]
theorem isB_look (rs : List Row) (t : Txn) : isB rs t = (look rs t).isSome := by
  rw [look_place]
  unfold isB
  cases h : placeOf rs t with
  | none => rfl
  | some k =>
    obtain ⟨r, hr, _⟩ := place_some h
    simp [hr]
theorem rowE_look {rs : List Row} {t : Txn} {r : Row} (h : look rs t = some r) : rowE rs t = r := by
  rw [look_place] at h
  unfold rowE
  cases hp : placeOf rs t with
  | none => rw [hp] at h; cases h
  | some k =>
    rw [hp] at h
    have h' : rs[k]? = some r := h
    simp [List.getD_eq_getElem?_getD, h']

theorem look_set (rs : List Row) (k : Nat) (r r' : Row) (t : Txn) (hp : placeOf rs r.t = some k) (hr : rs[k]? = some r) (ht : r'.t = r.t) : look (rs.set k r') t = if t = r.t then some r' else look rs t := by
  induction rs generalizing k with
  | nil => cases hr
  | cons x rs ih =>
    unfold placeOf at hp
    rw [List.findIdx?_cons] at hp
    cases hx : (x.t == r.t)
    · rw [hx] at hp
      cases hq : List.findIdx? (fun y => y.t == r.t) rs with
      | none => rw [hq] at hp; cases hp
      | some j =>
        rw [hq] at hp
        cases hp
        have := ih j hq hr
        unfold look at this ⊢
        rw [List.set_cons_succ, List.find?_cons, List.find?_cons, this]
        by_cases e : t = r.t
        · subst e; rw [hx, if_pos rfl]
        · rw [if_neg e, if_neg e]
    · rw [hx] at hp
      cases hp
      cases hr
      unfold look
      rw [List.set_cons_zero, List.find?_cons, List.find?_cons, ht]
      by_cases e : t = r.t
      · subst e; simp
      · have e' : (r.t == t) = false := by simpa using fun h => e h.symm
        rw [e', if_neg e]

theorem look_put (rs : List Row) (a : Act') (t : Txn) : look (putR rs a) t = if t = a.t then some (doR (rowOf rs a.t) a) else look rs t := by
  cases hp : placeOf rs a.t with
  | some k =>
    obtain ⟨r, hr, hrt⟩ := place_some hp
    have hro : rowOf rs a.t = r := by rw [rowOf, hp]; simp [List.getD_eq_getElem?_getD, hr]
    have hput : putR rs a = rs.set k (doR r a) := by unfold putR; rw [hp]; simp [List.getD_eq_getElem?_getD, hr]
    rw [hput, hro, look_set rs k r (doR r a) t (by rw [hrt]; exact hp) hr (doR_t _ _), hrt]
  | none =>
    have hro : rowOf rs a.t = freshR a.t := by rw [rowOf, hp]
    have hput : putR rs a = rs ++ [doR (freshR a.t) a] := by unfold putR; rw [hp]
    have hl : look rs a.t = none := by rw [look_place, hp]; rfl
    rw [hput, hro]
    unfold look at hl ⊢
    rw [List.find?_append]
    by_cases e : t = a.t
    · subst e
      rw [hl, if_pos rfl]
      simp [doR_t, freshR_t]
    · have e' : ((doR (freshR a.t) a).t == t) = false := by rw [doR_t, freshR_t]; simpa using fun h => e h.symm
      rw [if_neg e, List.find?_cons, e']
      simp

theorem len_put (rs : List Row) (a : Act') : (putR rs a).length = rs.length + (if (look rs a.t).isSome then 0 else 1) := by
  rw [← isB_look]
  unfold isB putR
  cases placeOf rs a.t with
  | none => simp
  | some k => simp

theorem rowOf_put {rs : List Row} {a : Act'} {t : Txn} (h : t ≠ a.t) : rowOf (putR rs a) t = rowOf rs t := by
  rw [rowOf_look, rowOf_look, look_put, if_neg h]

theorem mayV_apply {bad : Int} {rs : List Row} {a b : Act'} (h : b.t ≠ a.t) : mayV bad (applyR bad rs a) b = mayV bad rs b := by
  unfold applyR
  split
  · unfold mayV; rw [rowOf_put h]
  · rfl

theorem look_apply (bad : Int) (rs : List Row) (a : Act') (t : Txn) : look (applyR bad rs a) t = if mayV bad rs a = 0 ∧ t = a.t then some (doR (rowOf rs a.t) a) else look rs t := by
  unfold applyR
  by_cases h : mayV bad rs a = 0
  · rw [if_pos h, look_put]; simp [h]
  · rw [if_neg h]; simp [h]

theorem swap_look (bad : Int) (rs : List Row) (a b : Act') (h : a.t ≠ b.t) (t : Txn) : look (applyR bad (applyR bad rs a) b) t = look (applyR bad (applyR bad rs b) a) t := by
  rw [look_apply, look_apply, look_apply, look_apply, mayV_apply (Ne.symm h), mayV_apply h]
  have r1 : rowOf (applyR bad rs a) b.t = rowOf rs b.t := by rw [rowOf_look, rowOf_look, look_apply, if_neg (fun x => h x.2.symm)]
  have r2 : rowOf (applyR bad rs b) a.t = rowOf rs a.t := by rw [rowOf_look, rowOf_look, look_apply, if_neg (fun x => h x.2)]
  rw [r1, r2]
  by_cases e1 : mayV bad rs a = 0 ∧ t = a.t
  · have e2 : ¬ (mayV bad rs b = 0 ∧ t = b.t) := fun x => h (e1.2.symm.trans x.2)
    rw [if_neg e2, if_pos e1, if_pos e1]
  · rw [if_neg e1, if_neg e1]

theorem swap_len (bad : Int) (rs : List Row) (a b : Act') (h : a.t ≠ b.t) : (applyR bad (applyR bad rs a) b).length = (applyR bad (applyR bad rs b) a).length := by
  have key : ∀ (xs : List Row) (x : Act'), (applyR bad xs x).length = xs.length + (if mayV bad xs x = 0 ∧ (look xs x.t).isSome = false then 1 else 0) := by
    intro xs x
    unfold applyR
    by_cases hm : mayV bad xs x = 0
    · rw [if_pos hm, len_put]
      cases hl : (look xs x.t).isSome <;> simp [hm]
    · rw [if_neg hm]; simp [hm]
  rw [key, key, key, key, mayV_apply (Ne.symm h), mayV_apply h]
  have l1 : look (applyR bad rs a) b.t = look rs b.t := by rw [look_apply, if_neg (fun x => h x.2.symm)]
  have l2 : look (applyR bad rs b) a.t = look rs a.t := by rw [look_apply, if_neg (fun x => h x.2)]
  rw [l1, l2]
  omega

theorem look_mem {rs : List Row} (hn : (rs.map Row.t).Nodup) {x : Row} (hx : x ∈ rs) : look rs x.t = some x := by
  unfold look
  induction rs with
  | nil => cases hx
  | cons y rs ih =>
    rw [List.map_cons, List.nodup_cons] at hn
    rw [List.find?_cons]
    rcases List.mem_cons.1 hx with rfl | h
    · simp
    · have e : (y.t == x.t) = false := by
        simp only [beq_eq_false_iff_ne, ne_eq]
        intro e
        exact hn.1 (List.mem_map.2 ⟨x, h, e.symm⟩)
      rw [e]
      exact ih hn.2 h

/-- **The law.** -/
theorem swap_rows (bad : Int) (rs : List Row) (a b : Act') (h : a.t ≠ b.t) (hn : ((applyR bad (applyR bad rs a) b).map Row.t).Nodup) (x : Row) (hx : x ∈ applyR bad (applyR bad rs a) b) :
    isB (applyR bad (applyR bad rs b) a) x.t = true ∧ rowE (applyR bad (applyR bad rs b) a) x.t = x := by
  have hl := look_mem hn hx
  rw [swap_look bad rs a b h] at hl
  exact ⟨by rw [isB_look, hl]; rfl, rowE_look hl⟩
end Go.Proofs.Ytliakamlgjoabaa
