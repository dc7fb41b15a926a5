/- How an argument is opened to its cells: rows of whatever element type, structs field by field. -/
import Derived.Test.YtkjfagchololbaaProg
import Derived.WalkKit
import Derived.ProofKit
import Derived.OpenShut
import Derived.Deep.Slices
import Derived.Deep.Fields
import Derived.ChangeSame
namespace Go.Proofs.Ytkjfagchololbaa
open Go.ChangeShapes Go.WideShapes Go.Deep Go.RowKit

theorem choose_fn {α : Type} [Inhabited α] {n : Nat} {p : Nat → α → Prop} (h : ∀ i, i < n → ∃ x, p i x) : ∃ f : Nat → α, ∀ i, i < n → p i (f i) := by
  refine ⟨fun i => if hi : i < n then Classical.choose (h i hi) else default, fun i hi => ?_⟩
  simp only [hi, dif_pos]
  exact Classical.choose_spec (h i hi)

section
variable {H : Type} {enc : TypeId × Value → H} {P : Program} {w : World} {base : Nat} {spare : Nat → Bool} {held : Bool}

theorem add_at (b o i : Nat) : (⟨b, o, none⟩ : Addr).add i = ⟨b, o + i, none⟩ := by unfold Addr.add; split <;> simp_all

/-- A row that came in: each element's cells, and their reading. -/
theorem row_open {t e : TypeId} {a : Option Addr} {len cap : Nat} {d : DataW H} {p : List MemPlace} (ht : P.underlying t = some (.slice e)) (hC : 0 < P.cellsOf e)
    (hs : ∀ b, spare b = true) (h : DataW.Trod enc P w base spare held t (.slice a len cap) d p) :
    len ≤ maxLen ∧ (0 < len → ∃ b o, a = some ⟨b, o, none⟩ ∧ b < w.heap.size ∧ ∀ i, i < len → ∃ (cs : List Value) (n : Nat) (y : DataW H × List MemPlace), DataW.trod enc P w base spare held n e cs = some y ∧ cs.length = P.cellsOf e ∧
      ∀ j, j < P.cellsOf e → w.cell? ⟨b, o + i * P.cellsOf e + j, none⟩ = cs[j]?) := by
  obtain ⟨fuel, hf⟩ := h
  rcases open_slice ht hf with ⟨hcs, _⟩ | ⟨x, l, c, m, n, D, Pl, hcs, _, hl, hm, hmm, _, hi⟩
  · simp [Value.cells] at hcs
    obtain ⟨rfl, rfl, rfl⟩ := hcs
    exact ⟨Nat.zero_le _, fun h => by omega⟩
  · simp [Value.cells] at hcs
    obtain ⟨rfl, rfl, rfl⟩ := hcs
    refine ⟨by omega, fun h0 => ?_⟩
    rw [hs] at hmm
    simp at hmm
    have key : ∀ i, i < len → ∃ (cs : List Value) (n : Nat) (y : DataW H × List MemPlace), DataW.trod enc P w base spare held n e cs = some y ∧ cs.length = P.cellsOf e ∧ ∀ j, j < P.cellsOf e → w.cell? ((x.add (i * P.cellsOf e)).add j) = cs[j]? := by
      intro i hil
      obtain ⟨cs', hc, ht'⟩ := hi i (by omega)
      obtain ⟨_, hcl, hat⟩ := World.cells?_some hc
      exact ⟨cs', n, _, ht', hcl, hat⟩
    obtain ⟨b, off, spot⟩ := x
    obtain ⟨cs, _, _, _, hl0, h00⟩ := key 0 h0
    have hc0 := h00 0 hC
    rw [List.getElem?_eq_getElem (by omega)] at hc0
    have hspot : spot = none := by simpa [Addr.add] using World.cell?_spot hc0
    subst hspot
    refine ⟨b, off, rfl, ?_, fun i hil => ?_⟩
    · have := World.block_lt_of_cell? w _ hc0
      rw [add_at, add_at] at this
      exact this
    · obtain ⟨cs, n, y, h1, h2, h3⟩ := key i hil
      refine ⟨cs, n, y, h1, h2, fun j hj => ?_⟩
      have := h3 j hj
      rw [add_at, add_at] at this
      exact this

theorem one_of_take {cs : List Value} {o : Nat} {v : Value} (h : (cs.drop o).take 1 = [v]) : cs[o]? = some v := by
  have h1 : ((cs.drop o).take 1)[0]? = some v := by rw [h]; rfl
  simpa [List.getElem?_take, List.getElem?_drop] using h1

variable {t : TypeId} {fs : Array Field} {fuel : Nat} {cs : List Value} {x : DataW H × List MemPlace}

theorem fld {i : Nat} {f : Field} (ht : P.underlying t = some (.struct fs)) (h : DataW.trod enc P w base spare held fuel t cs = some x) (hf : fs[i]? = some f) :
    ∃ (n : Nat) (y : DataW H × List MemPlace), DataW.trod enc P w base spare held n f.type ((cs.drop f.offset).take (P.cellsOf f.type)) = some y := by
  obtain ⟨ys, n, _, _, _, hlen, hg⟩ := DataW.trod_struct ht h
  have hi : i < fs.size := (Array.getElem?_eq_some_iff.1 hf).1
  refine ⟨n, ys[i]'(by omega), ?_⟩
  rw [hg i f hf, List.getElem?_eq_getElem (by omega)]

theorem fld_int {i : Nat} {f : Field} {k : IntKind} (ht : P.underlying t = some (.struct fs)) (h : DataW.trod enc P w base spare held fuel t cs = some x) (hf : fs[i]? = some f) (hc : P.cellsOf f.type = 1) (hk : P.underlying f.type = some (.int k)) :
    ∃ n, cs[f.offset]? = some (.int k n) ∧ (Lit.int k n).wf = true := by
  obtain ⟨m, y, hy⟩ := fld ht h hf
  rw [hc] at hy
  obtain ⟨n, e, _, hw⟩ := DataW.trod_int hk hy
  exact ⟨n, one_of_take e, hw⟩

theorem fld_bool {i : Nat} {f : Field} (ht : P.underlying t = some (.struct fs)) (h : DataW.trod enc P w base spare held fuel t cs = some x) (hf : fs[i]? = some f) (hc : P.cellsOf f.type = 1) (hk : P.underlying f.type = some .bool) :
    ∃ b, cs[f.offset]? = some (.bool b) := by
  obtain ⟨m, y, hy⟩ := fld ht h hf
  rw [hc] at hy
  obtain ⟨n, e, _⟩ := DataW.trod_bool hk hy
  exact ⟨n, one_of_take e⟩

theorem fld_string {i : Nat} {f : Field} (ht : P.underlying t = some (.struct fs)) (h : DataW.trod enc P w base spare held fuel t cs = some x) (hf : fs[i]? = some f) (hc : P.cellsOf f.type = 1) (hk : P.underlying f.type = some .string) :
    ∃ s : ByteArray, cs[f.offset]? = some (.string s) ∧ s.size ≤ maxLen := by
  obtain ⟨m, y, hy⟩ := fld ht h hf
  rw [hc] at hy
  obtain ⟨n, e, _, hw⟩ := DataW.trod_string hk hy
  exact ⟨n, one_of_take e, hw⟩

/-- A field that is a struct: its own cells, read for themselves. -/
theorem fld_sub {i : Nat} {f : Field} (ht : P.underlying t = some (.struct fs)) (h : DataW.trod enc P w base spare held fuel t cs = some x) (hf : fs[i]? = some f) :
    ∃ (c2 : List Value) (n : Nat) (y : DataW H × List MemPlace), DataW.trod enc P w base spare held n f.type c2 = some y ∧ ∀ j, j < P.cellsOf f.type → c2[j]? = cs[f.offset + j]? := by
  obtain ⟨n, y, hy⟩ := fld ht h hf
  refine ⟨_, n, y, hy, fun j hj => ?_⟩
  rw [List.getElem?_take, if_pos hj, List.getElem?_drop]
end
end Go.Proofs.Ytkjfagchololbaa
