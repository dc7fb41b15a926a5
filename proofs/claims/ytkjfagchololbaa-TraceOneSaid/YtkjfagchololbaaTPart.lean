/- Two slices in boxes that are appended to in one statement: what each operation keeps. -/
import Derived.Test.YtkjfagchololbaaTReg
import Derived.Deep.AppendLies
namespace Go.Proofs.Ytkjfagchololbaa
open Go.RowKit Go.Shelf

/-- A block that a step turns: of cells, of a type that fits. -/
def RowOf (w : World) (n0 : Nat) (row : Option Nat) (T : TypeId → Prop) : Prop := ∀ r, row = some r → (∃ cs t, w.heap[r]? = some (.cells cs t (0, 0)) ∧ T t) ∧ n0 ≤ r
theorem RowOf.none {w : World} {n0 : Nat} {T : TypeId → Prop} : RowOf w n0 none T := fun _ h => by cases h
theorem RowOf.imp {w : World} {n0 : Nat} {row : Option Nat} {T T' : TypeId → Prop} (h : RowOf w n0 row T) (hi : ∀ t, T t → T' t) : RowOf w n0 row T' := fun r hr => by
  obtain ⟨⟨cs, t, h1, h2⟩, h3⟩ := h r hr
  exact ⟨⟨cs, t, h1, hi t h2⟩, h3⟩
theorem RowOf.ne {w : World} {n0 : Nat} {row : Option Nat} {T : TypeId → Prop} (h : RowOf w n0 row T) {b : Nat} {cs : Array Value} {t : TypeId} {fr : Nat × Nat} (hb : w.heap[b]? = some (.cells cs t fr)) (ht : ¬ T t) : some b ≠ row := by
  intro e
  obtain ⟨⟨cs', t', h1, h2⟩, _⟩ := h b e.symm
  rw [hb] at h1
  injection h1 with h1
  injection h1 with _ h3
  exact ht (h3 ▸ h2)
theorem RowOf.own {w : World} {n0 : Nat} {e : TypeId} {size : Nat} {v : Value} {k : Nat} {xs : List Value} (h : w.ownsRow n0 e size v k xs) : RowOf w n0 v.ownBlock (fun t => t = e) := by
  intro r hr
  rcases h.2 with ⟨rfl, _⟩ | ⟨g, cap, cur, rfl, hb, hg, _⟩
  · simp [Value.ownBlock] at hr
  · simp [Value.ownBlock] at hr
    subst hr
    exact ⟨⟨_, _, hg, rfl⟩, (h.lt g rfl).1⟩
theorem RowOf.box {w : World} {n0 b : Nat} {t : TypeId} {v : Value} (h : Boxed w b t v) (hb : n0 ≤ b) : RowOf w n0 (some b) (fun t' => t' = t) := by
  intro r hr
  cases hr
  exact ⟨⟨_, _, h, rfl⟩, hb⟩

theorem owns_grown {w w' : World} {row : Option Nat} {n0 : Nat} {e : TypeId} {size : Nat} {v : Value} {k : Nat} {xs : List Value} (h : w.ownsRow n0 e size v k xs) (hg : w.grownBy w' row) (hr : RowOf w n0 row (fun t => t ≠ e)) : w'.ownsRow n0 e size v k xs := by
  refine ⟨h.1, ?_⟩
  rcases h.2 with h2 | ⟨g, cap, cur, rfl, hb, hgg, rest⟩
  · exact .inl h2
  · exact .inr ⟨g, cap, cur, rfl, hb, (hg.block g (Array.getElem?_eq_some_iff.1 hgg).1 (hr.ne hgg (fun h => h rfl))).trans hgg, rest⟩

/-- One of the two. -/
structure Part (eT sT : TypeId) (size n0 b k : Nat) (v0 : Value) (xs : List Value) (cs : Array Value) (lv ls la lst : Bool) (xv xl xa : Value) (w : World) : Prop where
  cv : lv = true → xv = v0
  cl : ls = true → la = false → ∃ p, xl = .slice (some ⟨p, 0, none⟩) 1 1 ∧ w.heap[p]? = some (.cells cs eT (0, 0))
  ca : la = true → w.ownsRow n0 eT size xa (k + 1) (xs ++ cs.toList)
  da : la = false → w.ownsRow n0 eT size v0 k xs
  bx : Boxed w b sT (if lst = true then xa else v0)
  lo : n0 ≤ b
  i1 : la = true → lv = true ∧ ls = true
  i2 : lst = true → la = true

theorem Part.kept {eT sT : TypeId} {size n0 b k : Nat} {v0 : Value} {xs : List Value} {cs : Array Value} {lv ls la lst : Bool} {xv xl xa : Value} {w w' : World} {row : Option Nat} (h : Part eT sT size n0 b k v0 xs cs lv ls la lst xv xl xa w)
    (hg : w.grownBy w' row) (hr : RowOf w n0 row (fun t => t ≠ eT ∧ t ≠ sT)) : Part eT sT size n0 b k v0 xs cs lv ls la lst xv xl xa w' :=
  ⟨h.cv, fun h1 h2 => by
    obtain ⟨p, e, hp⟩ := h.cl h1 h2
    exact ⟨p, e, (hg.block p (Array.getElem?_eq_some_iff.1 hp).1 (hr.ne hp (fun h => h.1 rfl))).trans hp⟩,
    fun h1 => owns_grown (h.ca h1) hg (hr.imp fun _ h => h.1), fun h1 => owns_grown (h.da h1) hg (hr.imp fun _ h => h.1), h.bx.kept hg (hr.ne h.bx (fun h => h.2 rfl)), h.lo, h.i1, h.i2⟩

/-- The append. -/
theorem Part.app {P : Program} {eT sT : TypeId} {size n0 b k : Nat} {v0 : Value} {xs : List Value} {cs : Array Value} {lv ls lst : Bool} {xv xl xa : Value} {w : World} (h : Part eT sT size n0 b k v0 xs cs lv ls false lst xv xl xa w)
    (hlv : lv = true) (hls : ls = true) (t ty : TypeId) (i : TypeInfo) (z : Value) (bytes : Nat) (ht : P.underlying t = some (.slice eT)) (hi : P.info? eT = some i) (hz : i.zero = some z)
    (hsize : i.size = size) (hby : i.bytes = bytes) (hzs : z.cells.size = size) (hsz : 0 < size) (hcs : cs.size = size) (h1 : ∀ u ∈ cs.toList, u.oneCell' = true) (h63 : k + 1 ≤ maxLen) (hbytes : (k + 1) * bytes ≤ 140737488355328) (hbase : n0 ≤ w.heap.size) (hne : eT ≠ sT) :
    ∃ v' w', (Builtin.append_ #[t, t] ty #[xv, xl]).run P w = .ok v' w' ∧ w.grownBy w' v0.ownBlock ∧ RowOf w n0 v0.ownBlock (fun t => t = eT) ∧ Part eT sT size n0 b k v0 xs cs lv ls true lst xv xl v' w' := by
  obtain ⟨p, rfl, hp⟩ := h.cl hls rfl
  have hlst : lst = false := by
    cases hl : lst
    · rfl
    · have := h.i2 hl; cases this
  subst hlst
  obtain rfl := h.cv hlv
  have hown := h.da rfl
  obtain ⟨v', w', r1, r2, r3, _⟩ := run_append_own (P := P) w n0 t ty eT i z size bytes ht hi hz hsize hby hzs hsz xv k xs hown ⟨p, 0, none⟩ 1 1 cs.toList (by simp [hcs]) (World.news_of_block hp) h1 h63 hbytes hbase
  have hro := RowOf.own hown
  refine ⟨v', w', r1, r3, hro, h.cv, (fun _ h => by cases h), fun _ => r2, (fun h => by cases h), ?_, h.lo, fun _ => ⟨hlv, hls⟩, fun h => by cases h⟩
  exact h.bx.kept r3 (hro.ne h.bx (fun h => hne h.symm))

/-- The store. -/
theorem Part.put {eT sT : TypeId} {size n0 b k : Nat} {v0 : Value} {xs : List Value} {cs : Array Value} {lv ls la lst : Bool} {xv xl xa : Value} {w : World} (h : Part eT sT size n0 b k v0 xs cs lv ls la lst xv xl xa w) (hla : la = true) (hne : eT ≠ sT) :
    w.grownBy (w.setCell ⟨b, 0, none⟩ xa) (some b) ∧ RowOf w n0 (some b) (fun t => t = sT) ∧ Part eT sT size n0 b k v0 xs cs lv ls la true xv xl xa (w.setCell ⟨b, 0, none⟩ xa) := by
  have hg := grownBy_setCell' w b xa
  have hr := RowOf.box h.bx h.lo
  subst hla
  refine ⟨hg, hr, h.cv, (fun _ h => by cases h), fun _ => owns_grown (h.ca rfl) hg (hr.imp fun t e => e ▸ hne.symm), (fun h => by cases h), h.bx.set xa, h.lo, h.i1, fun _ => rfl⟩

/-- What the round's world keeps. -/
structure Rnd (n0 Bl Bb B : Nat) (lT uT : TypeId) (vl vb : Value) (w0 W w : World) : Prop where
  bel : Below n0 w0 w
  bl : Boxed w Bl lT vl
  bb : Boxed w Bb uT vb
  kf : KeepsFrom B W w
  sz : n0 ≤ w.heap.size
theorem Rnd.kept {n0 Bl Bb B : Nat} {lT uT : TypeId} {vl vb : Value} {w0 W w w' : World} {row : Option Nat} (h : Rnd n0 Bl Bb B lT uT vl vb w0 W w) (hg : w.grownBy w' row) (hr : RowOf w n0 row (fun t => t ≠ lT ∧ t ≠ uT)) : Rnd n0 Bl Bb B lT uT vl vb w0 W w' :=
  ⟨h.bel.grown hg h.sz (fun r e => (hr r e).2), h.bl.kept hg (hr.ne h.bl (fun h => h.1 rfl)), h.bb.kept hg (hr.ne h.bb (fun h => h.2 rfl)),
    h.kf.trans ⟨hg.size, fun k o _ hk ho => (hg.block k (Array.getElem?_eq_some_iff.1 hk).1 (fun e => by
      obtain ⟨⟨cs, t, h1, _⟩, _⟩ := hr k e.symm
      rw [hk] at h1
      injection h1 with h1
      subst h1
      simp [Obj.isCells] at ho)).trans hk⟩, Nat.le_trans h.sz hg.size⟩
end Go.Proofs.Ytkjfagchololbaa
