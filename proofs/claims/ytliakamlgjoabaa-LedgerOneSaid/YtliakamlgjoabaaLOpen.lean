/- How an argument of actions is opened to its cells. -/
import Derived.Test.YtliakamlgjoabaaLRun
import Derived.Test.YtliakamlgjoabaaOpen
namespace Go.Proofs.Ytliakamlgjoabaa
open Go.ChangeShapes Go.WideShapes Go.Deep Go.RowKit

theorem cellsAct : Try.prog.cellsOf 35 = 7 := by kernel_rfl
theorem cellsTxn : Try.prog.cellsOf 33 = 3 := by kernel_rfl
theorem cellsInt : Try.prog.cellsOf 3 = 1 := by kernel_rfl
theorem cellsU8 : Try.prog.cellsOf 5 = 1 := by kernel_rfl
theorem cellsBool : Try.prog.cellsOf 4 = 1 := by kernel_rfl

set_option maxRecDepth 100000 in
theorem act_open {H : Type} {enc : TypeId × Value → H} {w : World} {base : Nat} {spare : Nat → Bool} {held : Bool} {n : Nat} {cs : List Value} {y : DataW H × List MemPlace}
    (h : DataW.trod enc Try.prog w base spare held n 35 cs = some y) :
    ∃ a : Act', ActWf a ∧ cs[0]? = some (.int .u8 a.kind) ∧ cs[1]? = some (.int .i64 a.c) ∧ cs[2]? = some (.int .i64 a.e) ∧ cs[3]? = some (.int .i64 a.q) ∧ cs[4]? = some (.int .i64 a.org) ∧ cs[5]? = some (.bool a.yes) ∧ cs[6]? = some (.int .u8 a.orgs) := by
  obtain ⟨z0, e0, w0⟩ := fld_int (i := 0) Try.underlying35 h rfl cellsU8 Try.underlying5
  obtain ⟨c2, n2, y2, h2, hc2⟩ := fld_sub (i := 1) Try.underlying35 h rfl
  obtain ⟨x0, d0, v0⟩ := fld_int (i := 0) Try.underlying33 h2 rfl cellsInt Try.underlying3
  obtain ⟨x1, d1, v1⟩ := fld_int (i := 1) Try.underlying33 h2 rfl cellsInt Try.underlying3
  obtain ⟨x2, d2, v2⟩ := fld_int (i := 2) Try.underlying33 h2 rfl cellsInt Try.underlying3
  obtain ⟨z2, e2, w2⟩ := fld_int (i := 2) Try.underlying35 h rfl cellsInt Try.underlying3
  obtain ⟨z3, e3⟩ := fld_bool (i := 3) Try.underlying35 h rfl cellsBool Try.underlying4
  obtain ⟨z4, e4, w4⟩ := fld_int (i := 4) Try.underlying35 h rfl cellsU8 Try.underlying5
  have k := fun j hj => hc2 j (Nat.lt_of_lt_of_eq hj cellsTxn.symm)
  exact ⟨⟨z0, x0, x1, x2, z2, z3, z4⟩, ⟨bounds_u8 w0, ⟨bounds_i64 v0, bounds_i64 v1, bounds_i64 v2⟩, bounds_i64 w2, bounds_u8 w4⟩,
    e0, (k 0 (by omega)).symm.trans d0, (k 1 (by omega)).symm.trans d1, (k 2 (by omega)).symm.trans d2, e2, e3, e4⟩

theorem acts_open {H : Type} {enc : TypeId × Value → H} {w : World} {base : Nat} {spare : Nat → Bool} {held : Bool} {a : Option Addr} {len cap : Nat} {d : DataW H} {p : List MemPlace} (hs : ∀ b, spare b = true)
    (h : DataW.Trod enc Try.prog w base spare held 22 (.slice a len cap) d p) : len ≤ maxLen ∧ ∃ l : List Act', l.length = len ∧ ActsAt w w.heap.size a l := by
  obtain ⟨m, r⟩ := row_open Try.underlying22 (by rw [cellsAct]; omega) hs h
  rw [cellsAct] at r
  refine ⟨m, ?_⟩
  have key : ∀ i, i < len → ∃ f : Act', ActWf f ∧ ∀ b o, a = some ⟨b, o, none⟩ →
      w.cell? ⟨b, o + i * 7, none⟩ = some (.int .u8 f.kind) ∧ w.cell? ⟨b, o + i * 7 + 1, none⟩ = some (.int .i64 f.c) ∧ w.cell? ⟨b, o + i * 7 + 2, none⟩ = some (.int .i64 f.e) ∧ w.cell? ⟨b, o + i * 7 + 3, none⟩ = some (.int .i64 f.q) ∧
      w.cell? ⟨b, o + i * 7 + 4, none⟩ = some (.int .i64 f.org) ∧ w.cell? ⟨b, o + i * 7 + 5, none⟩ = some (.bool f.yes) ∧ w.cell? ⟨b, o + i * 7 + 6, none⟩ = some (.int .u8 f.orgs) := by
    intro i hi
    obtain ⟨b, o, rfl, hb, hc⟩ := r (by omega)
    obtain ⟨cs, n, y, ht, hl, hcs⟩ := hc i hi
    obtain ⟨f, hf, e0, e1, e2, e3, e4, e5, e6⟩ := act_open ht
    refine ⟨f, hf, fun b' o' e => ?_⟩
    cases e
    exact ⟨(hcs 0 (by omega)).trans e0, (hcs 1 (by omega)).trans e1, (hcs 2 (by omega)).trans e2, (hcs 3 (by omega)).trans e3, (hcs 4 (by omega)).trans e4, (hcs 5 (by omega)).trans e5, (hcs 6 (by omega)).trans e6⟩
  haveI : Inhabited Act' := ⟨⟨0, 0, 0, 0, 0, false, 0⟩⟩
  obtain ⟨f, hf⟩ := choose_fn key
  refine ⟨(List.range len).map f, by simp, ⟨fun h0 => ?_, fun x hx => ?_⟩⟩
  · rw [List.length_map, List.length_range] at h0
    obtain ⟨b, o, rfl, hb, _⟩ := r h0
    refine ⟨b, o, rfl, hb, fun i x hx => ?_⟩
    rw [List.getElem?_map] at hx
    obtain ⟨i', hi', rfl⟩ := Option.map_eq_some_iff.1 hx
    have hil : i < len := by have := (List.getElem?_eq_some_iff.1 hi').1; simpa using this
    have : i' = i := by rw [List.getElem?_range hil] at hi'; cases hi'; rfl
    subst this
    exact (hf i' hil).2 b o rfl
  · obtain ⟨i, hi, rfl⟩ := List.mem_map.1 hx
    exact (hf i (List.mem_range.1 hi)).1
end Go.Proofs.Ytliakamlgjoabaa
