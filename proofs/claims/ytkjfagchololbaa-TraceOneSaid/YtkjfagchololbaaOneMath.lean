/- The plain law of LedgerOne: what holds of rows, whatever is done. -/
import Derived.Test.YtkjfagchololbaaSetMath
import Derived.Test.YtkjfagchololbaaLApply
namespace Go.Proofs.Ytkjfagchololbaa

def moreB (a b : Row) : Bool :=
  (a.t == b.t) && (!a.begun || (b.begun && (a.orgs == b.orgs))) && (minusB a.voted b.voted == 0) && (a.yes == andB b.yes a.voted) && (!a.decided || (b.decided && (a.commit == b.commit))) && (minusB a.learnt b.learnt == 0)
def soundB (r : Row) (bad : Int) : Bool :=
  !((minusB r.yes r.voted != 0) || (minusB r.voted r.orgs != 0) || ((r.learnt != 0) && !r.decided) || (r.commit && !r.decided)) &&
    (!r.commit || (r.begun && (minusB (minusB r.orgs bad) r.yes == 0) && (minusB r.learnt r.yes == 0)))

def Sub (a b : Int) : Prop := ∀ j : Nat, j < 8 → inB a j = true → inB b j = true
theorem Sub.refl (a : Int) : Sub a a := fun _ _ h => h
theorem Sub.zero (b : Int) : Sub 0 b := fun j hj h => by rw [in_zero j hj] at h; cases h
theorem sub_add {a b : Int} (ha : Byte a) (h : Sub a b) (k : Nat) (hk : k < 8) (hb : inB b k = true) : Sub (addB a k) b := fun j hj h1 => by
  rw [in_add ha k hk j hj, Bool.or_eq_true] at h1
  rcases h1 with h1 | h1
  · exact h j hj h1
  · have : j = k := by simpa using h1
    rw [this]; exact hb
theorem add_sub {a : Int} (ha : Byte a) (k : Nat) (hk : k < 8) : Sub a (addB a k) := fun j hj h => by
  rw [in_add ha k hk j hj, h]; rfl
theorem add_self {a : Int} (ha : Byte a) (k : Nat) (hk : k < 8) : inB (addB a k) k = true := by
  rw [in_add ha k hk k hk]; simp
theorem Sub.trans {a b c : Int} (h : Sub a b) (k : Sub b c) : Sub a c := fun j hj x => k j hj (h j hj x)

structure RInv (bad : Int) (r : Row) : Prop where
  ok : RowOk r
  v : Sub r.voted r.orgs
  y : Sub r.yes r.voted
  nb : r.begun = false → r.orgs = 0 ∧ r.voted = 0
  nd : r.decided = false → r.learnt = 0 ∧ r.commit = false
  cb : r.commit = true → r.begun = true
  cy : r.commit = true → ∀ j : Nat, j < 8 → inB r.orgs j = true → inB bad j = false → inB r.yes j = true
  cl : r.commit = true → Sub r.learnt r.yes

theorem RInv.fresh (bad : Int) {t : Txn} (ht : wfT t) : RInv bad (freshR t) :=
  ⟨freshR_ok ht, Sub.refl _, Sub.refl _, fun _ => ⟨rfl, rfl⟩, fun _ => ⟨rfl, rfl⟩, (fun h => by cases h), (fun h => by cases h), (fun h => by cases h)⟩

theorem RInv.sound {bad : Int} {r : Row} (hb : Byte bad) (h : RInv bad r) : soundB r bad = true := by
  have h1 : minusB r.yes r.voted = 0 := (minus_zero h.ok.y h.ok.v).2 h.y
  have h2 : minusB r.voted r.orgs = 0 := (minus_zero h.ok.v h.ok.o).2 h.v
  unfold soundB
  rw [h1, h2]
  cases hd : r.decided
  · obtain ⟨h3, h4⟩ := h.nd hd
    simp [h3, h4]
  · cases hc : r.commit
    · simp
    · have h5 : minusB (minusB r.orgs bad) r.yes = 0 := (minus_zero (minus_byte _ _) h.ok.y).2 fun j hj x => by
        rw [in_minus h.ok.o hb j hj, Bool.and_eq_true] at x
        exact h.cy hc j hj x.1 (by simpa using x.2)
      have h6 : minusB r.learnt r.yes = 0 := (minus_zero h.ok.l h.ok.y).2 (h.cl hc)
      rw [h5, h6, h.cb hc]
      simp

/-- What the honest members' check says. -/
theorem honB_all {orgs bad yes : Int} (ho : Byte orgs) (hb : Byte bad) (h : ((honB orgs bad 8).all fun k => inB yes ((k.val : Nat) : Int)) = true) : ∀ j : Nat, j < 8 → inB orgs j = true → inB bad j = false → inB yes j = true := by
  intro j hj h1 h2
  rw [List.all_eq_true] at h
  refine h ⟨j, hj⟩ ?_
  unfold honB
  rw [List.mem_filterMap]
  refine ⟨j, List.mem_range.2 hj, ?_⟩
  rw [dif_pos hj, if_pos]
  rw [in_minus ho hb j hj, h1, h2]; rfl

theorem nat_of {k : Int} (h : 0 ≤ k ∧ k ≤ 7) : ∃ n : Nat, n < 8 ∧ k = (n : Int) := ⟨k.toNat, by omega, by omega⟩

theorem step_vote {bad : Int} {r : Row} {a : Act'} (h : RInv bad r) (hg : 0 ≤ a.org ∧ a.org ≤ 7) (hc : (r.begun && inB r.orgs a.org && !inB (orB r.voted r.learnt) a.org) = true) : RInv bad (voteR r a) ∧ moreB r (voteR r a) = true := by
  obtain ⟨k, hk, e⟩ := nat_of hg
  have hv := h.ok.v
  have hy := h.ok.y
  rw [e, Bool.and_eq_true, Bool.and_eq_true, in_or h.ok.v h.ok.l k hk] at hc
  obtain ⟨⟨hbeg, hin⟩, hnot⟩ := hc
  have hnv : inB r.voted k = false := by
    cases hx : inB r.voted k
    · rfl
    · rw [hx] at hnot; cases hnot
  have hvo : Sub (addB r.voted a.org) r.orgs := by rw [e]; exact sub_add hv h.v k hk hin
  have hyv : Sub (voteR r a).yes (addB r.voted a.org) := by
    unfold voteR
    dsimp only
    split
    · rw [e]; exact sub_add hy (h.y.trans (add_sub hv k hk)) k hk (add_self hv k hk)
    · rw [e]; exact h.y.trans (add_sub hv k hk)
  have hyy : Sub r.yes (voteR r a).yes := by
    unfold voteR
    dsimp only
    split
    · rw [e]; exact add_sub hy k hk
    · exact Sub.refl _
  have hyb : Byte (voteR r a).yes := by
    unfold voteR
    dsimp only
    split
    · exact add_byte _ _
    · exact hy
  refine ⟨⟨⟨h.ok.t, h.ok.o, add_byte _ _, hyb, h.ok.l⟩, hvo, hyv, fun x => ?_, h.nd, h.cb, fun x j hj y z => hyy j hj (h.cy x j hj y z), fun x => (h.cl x).trans hyy⟩, ?_⟩
  · have : r.begun = false := x
    rw [this] at hbeg; cases hbeg
  · have m1 : minusB r.voted (addB r.voted a.org) = 0 := (minus_zero hv (add_byte _ _)).2 (by rw [e]; exact add_sub hv k hk)
    have m2 : minusB r.learnt r.learnt = 0 := (minus_zero h.ok.l h.ok.l).2 (Sub.refl _)
    have m3 : r.yes = andB (voteR r a).yes r.voted := by
      refine set_ext hy (and_byte _ _) fun j hj => ?_
      rw [in_and hyb hv j hj]
      unfold voteR
      dsimp only
      split
      · rw [e, in_add hy k hk j hj]
        by_cases hjk : j = k
        · subst hjk
          rw [hnv]
          cases hx : inB r.yes j
          · simp
          · have := h.y j hj hx; rw [hnv] at this; cases this
        · simp [hjk]
          intro hx
          exact h.y j hj hx
      · cases hx : inB r.yes j
        · simp
        · simp [h.y j hj hx]
    show ((r.t == r.t) && (!r.begun || (r.begun && (r.orgs == r.orgs))) && (minusB r.voted (addB r.voted a.org) == 0) && (r.yes == andB (voteR r a).yes r.voted) && (!r.decided || (r.decided && (r.commit == r.commit))) && (minusB r.learnt r.learnt == 0)) = true
    rw [m1, m2, ← m3]
    simp

theorem and_self_of {y v : Int} (hy : Byte y) (hv : Byte v) (h : Sub y v) : y = andB y v :=
  set_ext hy (and_byte _ _) fun j hj => by
    rw [in_and hy hv j hj]
    cases hx : inB y j
    · simp
    · simp [h j hj hx]

theorem step_begin {bad : Int} {r : Row} {a : Act'} (h : RInv bad r) (ho : Byte a.orgs) (hc : (!r.begun && !r.decided) = true) : RInv bad (beginR r a) ∧ moreB r (beginR r a) = true := by
  rw [Bool.and_eq_true] at hc
  have hb : r.begun = false := by simpa using hc.1
  have hd : r.decided = false := by simpa using hc.2
  obtain ⟨o0, v0⟩ := h.nb hb
  obtain ⟨l0, c0⟩ := h.nd hd
  have hsub : Sub r.voted a.orgs := by rw [v0]; exact Sub.zero _
  refine ⟨⟨⟨h.ok.t, ho, h.ok.v, h.ok.y, h.ok.l⟩, hsub, h.y, (fun x => by cases x), h.nd, fun _ => rfl, fun x => ?_, h.cl⟩, ?_⟩
  · have : r.commit = true := x
    rw [c0] at this; cases this
  · have m1 : minusB r.voted r.voted = 0 := (minus_zero h.ok.v h.ok.v).2 (Sub.refl _)
    have m2 : minusB r.learnt r.learnt = 0 := (minus_zero h.ok.l h.ok.l).2 (Sub.refl _)
    have m3 := and_self_of h.ok.y h.ok.v h.y
    show ((r.t == r.t) && (!r.begun || (true && (r.orgs == a.orgs))) && (minusB r.voted r.voted == 0) && (r.yes == andB r.yes r.voted) && (!r.decided || (r.decided && (r.commit == r.commit))) && (minusB r.learnt r.learnt == 0)) = true
    rw [m1, m2, ← m3, hb]
    simp

theorem step_decide {bad : Int} {r : Row} {a : Act'} (hb : Byte bad) (h : RInv bad r) (hc : decB bad r a.yes = true) : RInv bad (decideR r a) ∧ moreB r (decideR r a) = true := by
  unfold decB at hc
  rw [Bool.and_eq_true] at hc
  obtain ⟨h1, h2⟩ := hc
  have hd : r.decided = false := by
    cases hx : r.decided
    · rfl
    · rw [hx] at h1; simp at h1
  obtain ⟨l0, c0⟩ := h.nd hd
  have hbeg : a.yes = true → r.begun = true := fun hy => by
    rw [hd, hy] at h1
    simpa using h1
  have hall : a.yes = true → ∀ j : Nat, j < 8 → inB r.orgs j = true → inB bad j = false → inB r.yes j = true := fun hy => by
    rw [hy] at h2
    exact honB_all h.ok.o hb (by simpa using h2)
  refine ⟨⟨⟨h.ok.t, h.ok.o, h.ok.v, h.ok.y, h.ok.l⟩, h.v, h.y, h.nb, (fun x => by cases x), hbeg, hall, fun _ => ?_⟩, ?_⟩
  · show Sub r.learnt r.yes
    rw [l0]; exact Sub.zero _
  · have m1 : minusB r.voted r.voted = 0 := (minus_zero h.ok.v h.ok.v).2 (Sub.refl _)
    have m2 : minusB r.learnt r.learnt = 0 := (minus_zero h.ok.l h.ok.l).2 (Sub.refl _)
    have m3 := and_self_of h.ok.y h.ok.v h.y
    show ((r.t == r.t) && (!r.begun || (r.begun && (r.orgs == r.orgs))) && (minusB r.voted r.voted == 0) && (r.yes == andB r.yes r.voted) && (!r.decided || (true && (r.commit == a.yes))) && (minusB r.learnt r.learnt == 0)) = true
    rw [m1, m2, ← m3, hd]
    simp

theorem step_learn {bad : Int} {r : Row} {a : Act'} (h : RInv bad r) (hg : 0 ≤ a.org ∧ a.org ≤ 7)
    (hc : (r.decided && (r.commit == a.yes) && !inB r.learnt a.org && (!r.begun || inB r.orgs a.org) && (!a.yes || inB r.yes a.org)) = true) : RInv bad (learnR r a) ∧ moreB r (learnR r a) = true := by
  obtain ⟨k, hk, e⟩ := nat_of hg
  simp only [Bool.and_eq_true] at hc
  obtain ⟨⟨⟨⟨hd, hcm⟩, _⟩, _⟩, hy⟩ := hc
  have hcm' : r.commit = a.yes := by simpa using hcm
  refine ⟨⟨⟨h.ok.t, h.ok.o, h.ok.v, h.ok.y, add_byte _ _⟩, h.v, h.y, h.nb, fun x => ?_, h.cb, h.cy, fun x => ?_⟩, ?_⟩
  · have : r.decided = false := x
    rw [this] at hd; cases hd
  · have x' : r.commit = true := x
    show Sub (addB r.learnt a.org) r.yes
    rw [← hcm', x'] at hy
    rw [e] at hy ⊢
    exact sub_add h.ok.l (h.cl x') k hk (by simpa using hy)
  · have m1 : minusB r.voted r.voted = 0 := (minus_zero h.ok.v h.ok.v).2 (Sub.refl _)
    have m2 : minusB r.learnt (addB r.learnt a.org) = 0 := (minus_zero h.ok.l (add_byte _ _)).2 (by rw [e]; exact add_sub h.ok.l k hk)
    have m3 := and_self_of h.ok.y h.ok.v h.y
    show ((r.t == r.t) && (!r.begun || (r.begun && (r.orgs == r.orgs))) && (minusB r.voted r.voted == 0) && (r.yes == andB r.yes r.voted) && (!r.decided || (r.decided && (r.commit == r.commit))) && (minusB r.learnt (addB r.learnt a.org) == 0)) = true
    rw [m1, m2, ← m3]
    simp

theorem more_refl {bad : Int} {r : Row} (h : RInv bad r) : moreB r r = true := by
  have m1 : minusB r.voted r.voted = 0 := (minus_zero h.ok.v h.ok.v).2 (Sub.refl _)
  have m2 : minusB r.learnt r.learnt = 0 := (minus_zero h.ok.l h.ok.l).2 (Sub.refl _)
  have m3 := and_self_of h.ok.y h.ok.v h.y
  unfold moreB
  rw [m1, m2, ← m3]
  simp

theorem mayV_can {bad : Int} {rs : List Row} {a : Act'} (h : mayV bad rs a = 0) : canB bad (rowOf rs a.t) a = true := by
  unfold mayV at h
  rw [if_pos (mayV_arg h)] at h
  split at h
  · assumption
  · omega

theorem step_do {bad : Int} (hb : Byte bad) {r : Row} {a : Act'} (h : RInv bad r) (ha : ActWf a) (hk : a.kind = 1 ∨ a.kind = 2 ∨ a.kind = 3 ∨ a.kind = 4) (hg : a.kind = 2 ∨ a.kind = 4 → 0 ≤ a.org ∧ a.org ≤ 7) (hc : canB bad r a = true) :
    RInv bad (doR r a) ∧ moreB r (doR r a) = true := by
  unfold canB at hc
  unfold doR
  rcases hk with e | e | e | e
  · rw [if_pos e] at hc ⊢
    exact step_begin h ha.o hc
  · rw [if_neg (by omega), if_pos e] at hc ⊢
    exact step_vote h (hg (.inl e)) hc
  · rw [if_neg (by omega), if_neg (by omega), if_pos e] at hc ⊢
    exact step_decide hb h hc
  · rw [if_neg (by omega), if_neg (by omega), if_neg (by omega)] at hc ⊢
    exact step_learn h (hg (.inr e)) hc

/-- An action that says what was decided. -/
def decK (a : Act') : Bool := (a.kind == 3) || (a.kind == 4)

structure LInv (bad : Int) (rs : List Row) (D : List Act') : Prop where
  rows : ∀ r ∈ rs, RInv bad r
  nodup : (rs.map Row.t).Nodup
  done : ∀ x ∈ D, decK x = true → ∃ r ∈ rs, r.t = x.t ∧ r.decided = true ∧ r.commit = x.yes

theorem LInv.nil (bad : Int) : LInv bad [] [] := ⟨by simp, by simp, by simp⟩

theorem mem_unique {rs : List Row} (hn : (rs.map Row.t).Nodup) {r r' : Row} (h : r ∈ rs) (h' : r' ∈ rs) (e : r.t = r'.t) : r = r' := by
  induction rs with
  | nil => cases h
  | cons x rs ih =>
    rw [List.map_cons, List.nodup_cons] at hn
    rcases List.mem_cons.1 h with rfl | h1
    · rcases List.mem_cons.1 h' with rfl | h2
      · rfl
      · exact absurd (List.mem_map.2 ⟨r', h2, e.symm⟩) hn.1
    · rcases List.mem_cons.1 h' with rfl | h2
      · exact absurd (List.mem_map.2 ⟨r, h1, e⟩) hn.1
      · exact ih hn.2 h1 h2

theorem doR_keeps (r : Row) (a : Act') (hc : r.decided = true) (hk : ¬ a.kind = 3) : (doR r a).decided = true ∧ (doR r a).commit = r.commit := by
  unfold doR
  split
  · exact ⟨hc, rfl⟩
  · split
    · exact ⟨hc, rfl⟩
    · exact ⟨hc, rfl⟩

theorem can3 {bad : Int} {r : Row} {a : Act'} (hk : a.kind = 3) (h : canB bad r a = true) : r.decided = false := by
  unfold canB at h
  rw [if_neg (by omega), if_neg (by omega), if_pos hk] at h
  unfold decB at h
  cases hx : r.decided
  · rfl
  · rw [hx] at h; simp at h
theorem can4 {bad : Int} {r : Row} {a : Act'} (hk : a.kind = 4) (h : canB bad r a = true) : r.decided = true ∧ r.commit = a.yes := by
  unfold canB at h
  rw [if_neg (by omega), if_neg (by omega), if_neg (by omega)] at h
  simp only [Bool.and_eq_true] at h
  exact ⟨h.1.1.1.1, by simpa using h.1.1.1.2⟩
theorem doR_3 (r : Row) {a : Act'} (hk : a.kind = 3) : doR r a = decideR r a := by
  unfold doR; rw [if_neg (by omega), if_neg (by omega), if_pos hk]

/-- **What a step does.** -/
theorem LInv.step {bad : Int} (hb : Byte bad) {rs : List Row} {D : List Act'} {a : Act'} (h : LInv bad rs D) (ha : ActWf a) (hv : mayV bad rs a = 0) :
    LInv bad (putR rs a) (D ++ [a]) ∧ (∀ (k : Nat) (r : Row), rs[k]? = some r → ∃ r', (putR rs a)[k]? = some r' ∧ moreB r r' = true) ∧ rs.length ≤ (putR rs a).length ∧ (∀ x ∈ D, decK x = true → decK a = true → x.t = a.t → x.yes = a.yes) := by
  have hk := mayV_kind hv
  have hg := mayV_org hv
  have hc := mayV_can hv
  cases hp : placeOf rs a.t with
  | some k =>
    obtain ⟨r, hr, hrt⟩ := place_some hp
    have hmem : r ∈ rs := List.mem_of_getElem? hr
    have hro : rowOf rs a.t = r := by rw [rowOf, hp]; simp [List.getD_eq_getElem?_getD, hr]
    have hput : putR rs a = rs.set k (doR r a) := by unfold putR; rw [hp]; simp [List.getD_eq_getElem?_getD, hr]
    rw [hro] at hc
    obtain ⟨s1, s2⟩ := step_do hb (h.rows r hmem) ha hk hg hc
    have hkl : k < rs.length := (List.getElem?_eq_some_iff.1 hr).1
    rw [hput]
    refine ⟨⟨?_, ?_, ?_⟩, ?_, by rw [List.length_set]; exact Nat.le_refl _, ?_⟩
    · intro x hx
      rcases List.mem_or_eq_of_mem_set hx with hx | rfl
      · exact h.rows x hx
      · exact s1
    · rw [map_set_t rs k r _ hr (doR_t _ _)]; exact h.nodup
    · intro x hx hxk
      have hnew : doR r a ∈ rs.set k (doR r a) := List.mem_of_getElem? (List.getElem?_set_self hkl)
      rcases List.mem_append.1 hx with hx | hx
      · obtain ⟨r', hr', ht, hd, hcm⟩ := h.done x hx hxk
        by_cases hsame : r'.t = r.t
        · have := mem_unique h.nodup hr' hmem hsame
          subst this
          have hk3 : ¬ a.kind = 3 := fun e => by have := can3 e hc; rw [hd] at this; cases this
          obtain ⟨k1, k2⟩ := doR_keeps r' a hd hk3
          exact ⟨_, hnew, (doR_t _ _).trans ht, k1, k2.trans hcm⟩
        · obtain ⟨j, hj⟩ := List.mem_iff_getElem?.1 hr'
          have hjk : j ≠ k := fun e => by
            subst e
            rw [hr] at hj; cases hj
            exact hsame rfl
          exact ⟨r', List.mem_of_getElem? (by rw [List.getElem?_set_ne (Ne.symm hjk)]; exact hj), ht, hd, hcm⟩
      · have := List.mem_singleton.1 hx
        subst this
        rcases hk with e | e | e | e
        · simp [decK, e] at hxk
        · simp [decK, e] at hxk
        · exact ⟨_, hnew, (doR_t _ _).trans hrt, by rw [doR_3 r e]; rfl, by rw [doR_3 r e]; rfl⟩
        · obtain ⟨k1, k2⟩ := can4 e hc
          obtain ⟨k3, k4⟩ := doR_keeps r x k1 (by omega)
          exact ⟨_, hnew, (doR_t _ _).trans hrt, k3, k4.trans k2⟩
    · intro j r' hj
      by_cases hjk : j = k
      · subst hjk
        rw [hr] at hj; cases hj
        exact ⟨_, List.getElem?_set_self hkl, s2⟩
      · exact ⟨r', by rw [List.getElem?_set_ne (Ne.symm hjk)]; exact hj, more_refl (h.rows r' (List.mem_of_getElem? hj))⟩
    · intro x hx hxk hak hxt
      obtain ⟨r', hr', ht, hd, hcm⟩ := h.done x hx hxk
      have := mem_unique h.nodup hr' hmem (ht.trans (hxt.trans hrt.symm))
      subst this
      rcases hk with e | e | e | e
      · simp [decK, e] at hak
      · simp [decK, e] at hak
      · have := can3 e hc; rw [hd] at this; cases this
      · exact hcm.symm.trans (can4 e hc).2
  | none =>
    have hro : rowOf rs a.t = freshR a.t := by rw [rowOf, hp]
    have hput : putR rs a = rs ++ [doR (freshR a.t) a] := by unfold putR; rw [hp]
    rw [hro] at hc
    obtain ⟨s1, _⟩ := step_do hb (RInv.fresh bad ha.t) ha hk hg hc
    rw [hput]
    refine ⟨⟨?_, ?_, ?_⟩, ?_, by simp, ?_⟩
    · intro x hx
      rcases List.mem_append.1 hx with hx | hx
      · exact h.rows x hx
      · rw [List.mem_singleton.1 hx]; exact s1
    · rw [List.map_append, List.nodup_append]
      refine ⟨h.nodup, by simp, ?_⟩
      intro x hx y hy e
      obtain ⟨z, hz, rfl⟩ := List.mem_map.1 hx
      simp [doR_t] at hy
      exact place_none hp z hz (e.trans hy)
    · intro x hx hxk
      rcases List.mem_append.1 hx with hx | hx
      · obtain ⟨r', hr', hh⟩ := h.done x hx hxk
        exact ⟨r', List.mem_append_left _ hr', hh⟩
      · have := List.mem_singleton.1 hx
        subst this
        rcases hk with e | e | e | e
        · simp [decK, e] at hxk
        · simp [decK, e] at hxk
        · exact ⟨doR (freshR x.t) x, by simp, doR_t _ _, by rw [doR_3 _ e]; rfl, by rw [doR_3 _ e]; rfl⟩
        · have := (can4 e hc).1; cases this
    · intro j r' hj
      exact ⟨r', by rw [List.getElem?_append_left (List.getElem?_eq_some_iff.1 hj).1]; exact hj, more_refl (h.rows r' (List.mem_of_getElem? hj))⟩
    · intro x hx hxk _ hxt
      obtain ⟨r', hr', ht, _⟩ := h.done x hx hxk
      exact absurd (ht.trans hxt) (place_none hp r' hr')
end Go.Proofs.Ytkjfagchololbaa
