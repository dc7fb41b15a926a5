/- A region that draws its order, whose operations read old memory alone and whose callees make new memory: one walk, in the text's order, by the cheap step. -/
import Derived.Test.YtkjfagchololbaaOnly
import Derived.Deep.Quiet
import Derived.Deep.QuietTactic
import Derived.BigQuiet
namespace Go.Proofs.Ytkjfagchololbaa
open Go.RowKit

/-- A world in which all that lay in w lies as it lay. -/
structure OW (w : World) where
  x : World
  h : Only (fun _ => False) w x
instance (w : World) : Nonempty (OW w) := ⟨⟨w, Only.refl _ w⟩⟩
theorem OW.cellN {w : World} {n : Nat} {p : Addr} {v : Value} (h : w.cell? p = some v) (i : OW (w.drewN n)) : i.x.cell? p = some v := i.h.cell (p := p) h id
theorem wp_region_ow {id : Nat} {Q : Exit → Act → World → Prop} {a : Act} {w : World} {l : List Oper} (hm : Try.prog.follows .mixedOrders = true) (hB : Region.lexB .any l.toArray = true)
    (h : wpQuiet Try.prog l.toArray (fun w' => ∃ i : OW w, w' = i.x) (fun a' => ∀ i : OW w, Q .normal a' i.x) l a) : (Code.region id l.toArray true).wp Try.prog Q a w :=
  wp_region_quiet (C := fun w' => ∃ i : OW w, w' = i.x) hm hB ⟨⟨w.drew, (Only.refl _ w).drew⟩, rfl⟩ (by
    have key : (fun a' => ∀ w', (∃ i : OW w, w' = i.x) → Q .normal a' w') = fun a' => ∀ i : OW w, Q .normal a' i.x := by
      funext a'
      exact propext ⟨fun h i => h _ ⟨i, rfl⟩, fun h w' ⟨i, e⟩ => e ▸ h i⟩
    rw [key]
    simpa using h)
theorem OW.cell {w : World} {p : Addr} {v : Value} (h : w.cell? p = some v) (i : OW w) : i.x.cell? p = some v := i.h.cell h id
theorem OW.call {w : World} {i : OW w} {f : FuncId} {args : Array Value} {v : Value} (h : Calls Try.prog f args i.x fun e w' => e = .returned v ∧ Below i.x.heap.size i.x w') : Calls Try.prog f args i.x fun e w' => e = .returned v ∧ ∃ j : OW w, w' = j.x :=
  h.mono fun _ _ ⟨h1, h2⟩ => ⟨h1, ⟨_, i.h.trans (Only.of_below h2)⟩, rfl⟩
end Go.Proofs.Ytkjfagchololbaa
