/- A region that draws its order, by a relation that every operation keeps. -/
import Derived.Test.YtkjfagchololbaaTEach
import Derived.OrdersIn
import Derived.Laws.AppendOwn
namespace Go.Proofs.Ytkjfagchololbaa
open Go.RowKit Go.Shelf

section
variable {F : Fence} {n : Nat} {P : Program} {md : Region.Mode} {ops : Array Oper} {Q : Exit → Act → World → Prop}

def openN (listed : Array Bool) : Nat := (listed.toList.filter fun b => !b).length
theorem filter_set_lt : ∀ (l : List Bool) (i : Nat), l[i]? = some false → ((l.set i true).filter fun b => !b).length + 1 = (l.filter fun b => !b).length
  | [], _, h => by cases h
  | b :: l, 0, h => by cases h; simp
  | b :: l, i + 1, h => by
    have := filter_set_lt l i (by simpa using h)
    cases b <;> simp_all
theorem openN_set {listed : Array Bool} {i : Nat} (h : listed.getD i true = false) : openN (listed.setIfInBounds i true) + 1 = openN listed := by
  unfold openN
  rw [Array.toList_setIfInBounds]
  refine filter_set_lt _ _ ?_
  rw [Array.getElem?_toList]
  unfold Array.getD at h
  split at h
  · rename_i hlt
    rw [Array.getElem?_eq_getElem hlt]
    simpa using h
  · cases h

theorem wpAnyIn_inv {Inv : Array Bool → Act → World → Prop}
    (hstep : ∀ listed a w i o, Inv listed a w → ops[i]? = some o → listed.getD i true = false → (∀ e ∈ o.after, Region.binds md e = true → listed.getD e.on false = true) → o.guard = none ∧ o.wpIn F n P a w (Inv (listed.setIfInBounds i true)) Q)
    (hdone : ∀ listed a w, Inv listed a w → Region.ready md ops listed = [] → Q .normal a w) :
    ∀ (fuel : Nat) (listed : Array Bool) (a : Act) (w : World), openN listed ≤ fuel → Inv listed a w → wpAnyIn F n P md ops Q fuel listed a w
  | 0, listed, a, w, hf, hI => by
    have h0 : Region.ready md ops listed = [] := by
      cases hr : Region.ready md ops listed with
      | nil => rfl
      | cons i r =>
        obtain ⟨h1, _⟩ := mem_ready.1 (show i ∈ Region.ready md ops listed by rw [hr]; simp)
        have := openN_set h1
        omega
    exact ⟨h0, hdone _ _ _ hI h0⟩
  | fuel + 1, listed, a, w, hf, hI => by
    refine ⟨fun h0 => hdone _ _ _ hI h0, fun i hi => ?_⟩
    obtain ⟨h1, o, ho, hd⟩ := mem_ready.1 hi
    obtain ⟨hg, hw⟩ := hstep listed a w i o hI ho h1 hd
    have hn := openN_set h1
    refine wpOpIn_mono (K := Inv (listed.setIfInBounds i true)) (fun a' w' h => wpAnyIn_inv hstep hdone fuel _ a' w' (by omega) h) ?_
    unfold wpOpIn
    rw [ho]
    simp only [Region.wanted, hg, if_true]
    exact hw

theorem ready_nil {listed : Array Bool} (hr : Region.ready md ops listed = []) (i : Nat) (o : Oper) (ho : ops[i]? = some o) (hd : ∀ e ∈ o.after, Region.binds md e = true → listed.getD e.on false = true) : listed.getD i true = true := by
  cases h : listed.getD i true
  · have := mem_ready.2 ⟨h, o, ho, hd⟩
    rw [hr] at this
    cases this
  · rfl

theorem wpIn_val {o : Oper} {a : Act} {w w' : World} {K : Act → World → Prop} {v : Value} (hd : ∀ c, o.op ≠ .defer c) (hab : ∀ f, o.about P w a.eval = some f → F.fn f) (hrun : (execOp a.eval o).run P w = .ok (.value v) w') (hK : K (a.put o.dst v) w') : o.wpIn F n P a w K Q := by
  refine ⟨hab, ?_⟩
  rw [Oper.semAt_plain F _ _ hd, hrun]
  exact hK
theorem wpIn_skp {o : Oper} {a : Act} {w w' : World} {K : Act → World → Prop} (hd : ∀ c, o.op ≠ .defer c) (hab : ∀ f, o.about P w a.eval = some f → F.fn f) (hrun : (execOp a.eval o).run P w = .ok .skip w') (hK : K (a.put o.dst undef) w') : o.wpIn F n P a w K Q := by
  refine ⟨hab, ?_⟩
  rw [Oper.semAt_plain F _ _ hd, hrun]
  exact hK
end
end Go.Proofs.Ytkjfagchololbaa
