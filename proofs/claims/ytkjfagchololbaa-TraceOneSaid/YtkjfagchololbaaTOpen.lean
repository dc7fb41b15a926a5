/- How an argument of events is opened to its cells. -/
import Derived.Test.YtkjfagchololbaaTChk
import Derived.Test.YtkjfagchololbaaOpen
namespace Go.Proofs.Ytkjfagchololbaa
open Go.ChangeShapes Go.WideShapes Go.Deep Go.RowKit

theorem cellsEv : Try.prog.cellsOf 43 = 22 := by kernel_rfl
theorem cellsTxn : Try.prog.cellsOf 31 = 3 := by kernel_rfl
theorem cellsRec : Try.prog.cellsOf 39 = 10 := by kernel_rfl
theorem cellsRcp : Try.prog.cellsOf 41 = 6 := by kernel_rfl
theorem cellsMem : Try.prog.cellsOf 60 = 2 := by kernel_rfl
theorem cellsInt : Try.prog.cellsOf 3 = 1 := by kernel_rfl
theorem cellsU8 : Try.prog.cellsOf 5 = 1 := by kernel_rfl
theorem cellsBool : Try.prog.cellsOf 4 = 1 := by kernel_rfl
theorem cellsStr : Try.prog.cellsOf 9 = 1 := by kernel_rfl
theorem cellsSM : Try.prog.cellsOf 36 = 1 := by kernel_rfl
theorem cellsSS : Try.prog.cellsOf 37 = 1 := by kernel_rfl

section
variable {H : Type} {enc : TypeId × Value → H} {P : Program} {w : World} {base : Nat} {spare : Nat → Bool} {held : Bool} {t : TypeId} {fs : Array Field} {fuel : Nat} {cs : List Value} {x : DataW H × List MemPlace}
/-- A field that is a slice. -/
theorem fld_slice {i : Nat} {f : Field} {e : TypeId} (ht : P.underlying t = some (.struct fs)) (h : DataW.trod enc P w base spare held fuel t cs = some x) (hf : fs[i]? = some f) (hc : P.cellsOf f.type = 1) (hk : P.underlying f.type = some (.slice e)) :
    ∃ a len cap d p, cs[f.offset]? = some (.slice a len cap) ∧ DataW.Trod enc P w base spare held f.type (.slice a len cap) d p := by
  obtain ⟨m, y, hy⟩ := fld ht h hf
  rw [hc] at hy
  rcases open_slice hk hy with ⟨hcs, _⟩ | ⟨ad, l, c, _, _, _, _, hcs, _⟩
  · exact ⟨none, 0, 0, y.1, y.2, one_of_take hcs, ⟨m, by rw [hcs] at hy; exact hy⟩⟩
  · exact ⟨some ad, l, c, y.1, y.2, one_of_take hcs, ⟨m, by rw [hcs] at hy; exact hy⟩⟩
end

theorem slice_cap {H : Type} {enc : TypeId × Value → H} {P : Program} {w : World} {base : Nat} {spare : Nat → Bool} {held : Bool} {t e : TypeId} {a : Option Addr} {len cap : Nat} {d : DataW H} {p : List MemPlace} (ht : P.underlying t = some (.slice e)) (h : DataW.Trod enc P w base spare held t (.slice a len cap) d p) : len ≤ cap := by
  obtain ⟨fuel, hf⟩ := h
  rcases open_slice ht hf with ⟨hcs, _⟩ | ⟨x, l, c, m, n, D, Pl, hcs, _, hl, _⟩
  · simp [Value.cells] at hcs
    omega
  · simp [Value.cells] at hcs
    obtain ⟨_, rfl, rfl⟩ := hcs
    exact hl

set_option maxRecDepth 100000 in
theorem mems_open {H : Type} {enc : TypeId × Value → H} {w : World} {base : Nat} {spare : Nat → Bool} {held : Bool} {a : Option Addr} {len cap : Nat} {d : DataW H} {p : List MemPlace} (hs : ∀ b, spare b = true)
    (h : DataW.Trod enc Try.prog w base spare held 36 (.slice a len cap) d p) : len ≤ maxLen ∧ ∃ ms : List (Int × ByteArray), ms.length = len ∧ MemAt w w.heap.size a ms ∧ ∀ m ∈ ms, -9223372036854775808 ≤ m.1 ∧ m.1 ≤ 9223372036854775807 := by
  obtain ⟨m, r⟩ := row_open Try.underlying36 (by rw [cellsMem]; omega) hs h
  rw [cellsMem] at r
  refine ⟨m, ?_⟩
  have key : ∀ i, i < len → ∃ f : Int × ByteArray, (-9223372036854775808 ≤ f.1 ∧ f.1 ≤ 9223372036854775807) ∧ ∀ b o, a = some ⟨b, o, none⟩ → w.cell? ⟨b, o + i * 2, none⟩ = some (.int .i64 f.1) ∧ w.cell? ⟨b, o + i * 2 + 1, none⟩ = some (.string f.2) := by
    intro i hi
    obtain ⟨b, o, rfl, hb, hc⟩ := r (by omega)
    obtain ⟨cs, n, y, ht, hl, hcs⟩ := hc i hi
    obtain ⟨z0, e0, w0⟩ := fld_int (i := 0) Try.underlying60 ht rfl cellsInt Try.underlying3
    obtain ⟨z1, e1, _⟩ := fld_string (i := 1) Try.underlying60 ht rfl cellsStr Try.underlying9
    refine ⟨(z0, z1), bounds_i64 w0, fun b' o' e => ?_⟩
    cases e
    exact ⟨(hcs 0 (by omega)).trans e0, (hcs 1 (by omega)).trans e1⟩
  haveI : Inhabited (Int × ByteArray) := ⟨(0, ByteArray.empty)⟩
  obtain ⟨f, hf⟩ := choose_fn key
  refine ⟨(List.range len).map f, by simp, ⟨fun h0 => ?_⟩, fun x hx => ?_⟩
  · rw [List.length_map, List.length_range] at h0
    obtain ⟨b, o, rfl, hb, _⟩ := r h0
    refine ⟨b, o, rfl, hb, fun i x hx => ?_⟩
    rw [List.getElem?_map] at hx
    obtain ⟨i', hi', rfl⟩ := Option.map_eq_some_iff.1 hx
    have hil : i < len := by have := (List.getElem?_eq_some_iff.1 hi').1; simpa using this
    have : i' = i := by rw [List.getElem?_range hil] at hi'; cases hi'; rfl
    subst this
    exact (hf i' hil).2 b o rfl
  · obtain ⟨i, hi, rfl⟩ := List.mem_map.1 hx
    exact (hf i (List.mem_range.1 hi)).1

set_option maxRecDepth 100000 in
set_option maxHeartbeats 2000000 in
theorem ev_open {H : Type} {enc : TypeId × Value → H} {w : World} {base : Nat} {spare : Nat → Bool} {held : Bool} {n : Nat} {cs : List Value} {y : DataW H × List MemPlace} (hs : ∀ b, spare b = true)
    (h : DataW.trod enc Try.prog w base spare held n 43 cs = some y) :
    ∃ x : Ev, (EvWf x ∧ MemAt w w.heap.size x.av x.ms) ∧ (evC x).all (·.oneCell') = true ∧ ∀ (j : Nat) (v : Value), (evC x).toList[j]? = some v → cs[j]? = some v := by
  obtain ⟨z0, e0, w0⟩ := fld_int (i := 0) Try.underlying43 h rfl cellsU8 Try.underlying5
  obtain ⟨z1, e1, w1⟩ := fld_int (i := 1) Try.underlying43 h rfl cellsInt Try.underlying3
  obtain ⟨z2, e2, w2⟩ := fld_int (i := 2) Try.underlying43 h rfl cellsInt Try.underlying3
  obtain ⟨c3, n3, y3, h3, hc3⟩ := fld_sub (i := 3) Try.underlying43 h rfl
  obtain ⟨x0, d0, v0⟩ := fld_int (i := 0) Try.underlying31 h3 rfl cellsInt Try.underlying3
  obtain ⟨x1, d1, v1⟩ := fld_int (i := 1) Try.underlying31 h3 rfl cellsInt Try.underlying3
  obtain ⟨x2, d2, v2⟩ := fld_int (i := 2) Try.underlying31 h3 rfl cellsInt Try.underlying3
  have k3 := fun j hj => hc3 j (Nat.lt_of_lt_of_eq hj cellsTxn.symm)
  obtain ⟨c4, n4, y4, h4, hc4⟩ := fld_sub (i := 4) Try.underlying43 h rfl
  have k4 := fun j hj => hc4 j (Nat.lt_of_lt_of_eq hj cellsRec.symm)
  obtain ⟨r0, f0, g0⟩ := fld_int (i := 0) Try.underlying39 h4 rfl cellsU8 Try.underlying5
  obtain ⟨r1, f1, g1⟩ := fld_int (i := 1) Try.underlying39 h4 rfl cellsInt Try.underlying3
  obtain ⟨c42, n42, y42, h42, hc42⟩ := fld_sub (i := 2) Try.underlying39 h4 rfl
  have k42 := fun j hj => hc42 j (Nat.lt_of_lt_of_eq hj cellsTxn.symm)
  obtain ⟨r2, f2, g2⟩ := fld_int (i := 0) Try.underlying31 h42 rfl cellsInt Try.underlying3
  obtain ⟨r3, f3, g3⟩ := fld_int (i := 1) Try.underlying31 h42 rfl cellsInt Try.underlying3
  obtain ⟨r4, f4, g4⟩ := fld_int (i := 2) Try.underlying31 h42 rfl cellsInt Try.underlying3
  obtain ⟨r5, f5⟩ := fld_bool (i := 3) Try.underlying39 h4 rfl cellsBool Try.underlying4
  obtain ⟨r6, f6, g6⟩ := fld_int (i := 4) Try.underlying39 h4 rfl cellsInt Try.underlying3
  obtain ⟨ra1, rl1, rc1, _, _, f7, _⟩ := fld_slice (i := 5) Try.underlying39 h4 rfl cellsSM Try.underlying36
  obtain ⟨ra2, rl2, rc2, _, _, f8, _⟩ := fld_slice (i := 6) Try.underlying39 h4 rfl cellsSS Try.underlying37
  obtain ⟨r9, f9, _⟩ := fld_string (i := 7) Try.underlying39 h4 rfl cellsStr Try.underlying9
  obtain ⟨c5, n5, y5, h5, hc5⟩ := fld_sub (i := 5) Try.underlying43 h rfl
  have k5 := fun j hj => hc5 j (Nat.lt_of_lt_of_eq hj cellsRcp.symm)
  obtain ⟨c50, n50, y50, h50, hc50⟩ := fld_sub (i := 0) Try.underlying41 h5 rfl
  have k50 := fun j hj => hc50 j (Nat.lt_of_lt_of_eq hj cellsTxn.symm)
  obtain ⟨q0, p0, _⟩ := fld_int (i := 0) Try.underlying31 h50 rfl cellsInt Try.underlying3
  obtain ⟨q1, p1, _⟩ := fld_int (i := 1) Try.underlying31 h50 rfl cellsInt Try.underlying3
  obtain ⟨q2, p2, _⟩ := fld_int (i := 2) Try.underlying31 h50 rfl cellsInt Try.underlying3
  obtain ⟨q3, p3, _⟩ := fld_int (i := 1) Try.underlying41 h5 rfl cellsInt Try.underlying3
  obtain ⟨ma, ml, mc, _, _, p4, hm⟩ := fld_slice (i := 2) Try.underlying41 h5 rfl cellsSM Try.underlying36
  obtain ⟨ta, tl, tc, _, _, p5, _⟩ := fld_slice (i := 3) Try.underlying41 h5 rfl cellsSS Try.underlying37
  obtain ⟨hml, ms, rfl, hma, hmb⟩ := mems_open hs hm
  refine ⟨⟨z0, z1, z2, x0, x1, x2, r0, r1, r2, r3, r4, r5, r6, .slice ra1 rl1 rc1, .slice ra2 rl2 rc2, .string r9, q0, q1, q2, q3, ma, mc, .slice ta tl tc, ms⟩, ⟨⟨bounds_u8 w0, bounds_u8 g0, ⟨bounds_i64 v0, bounds_i64 v1, bounds_i64 v2⟩, ⟨bounds_i64 g2, bounds_i64 g3, bounds_i64 g4⟩, bounds_i64 w2, hmb, hml⟩, hma⟩, by simp [evC, Value.oneCell'], ?_⟩
  intro j v hj
  have hjl : j < 22 := (List.getElem?_eq_some_iff.1 hj).1
  obtain rfl | rfl | rfl | rfl | rfl | rfl | rfl | rfl | rfl | rfl | rfl | rfl | rfl | rfl | rfl | rfl | rfl | rfl | rfl | rfl | rfl | rfl : j = 0 ∨ j = 1 ∨ j = 2 ∨ j = 3 ∨ j = 4 ∨ j = 5 ∨ j = 6 ∨ j = 7 ∨ j = 8 ∨ j = 9 ∨ j = 10 ∨ j = 11 ∨ j = 12 ∨ j = 13 ∨ j = 14 ∨ j = 15 ∨ j = 16 ∨ j = 17 ∨ j = 18 ∨ j = 19 ∨ j = 20 ∨ j = 21 := by omega
  all_goals cases hj
  · exact e0
  · exact e1
  · exact e2
  · exact (k3 0 (by omega)).symm.trans d0
  · exact (k3 1 (by omega)).symm.trans d1
  · exact (k3 2 (by omega)).symm.trans d2
  · exact (k4 0 (by omega)).symm.trans f0
  · exact (k4 1 (by omega)).symm.trans f1
  · exact (k4 2 (by omega)).symm.trans ((k42 0 (by omega)).symm.trans f2)
  · exact (k4 3 (by omega)).symm.trans ((k42 1 (by omega)).symm.trans f3)
  · exact (k4 4 (by omega)).symm.trans ((k42 2 (by omega)).symm.trans f4)
  · exact (k4 5 (by omega)).symm.trans f5
  · exact (k4 6 (by omega)).symm.trans f6
  · exact (k4 7 (by omega)).symm.trans f7
  · exact (k4 8 (by omega)).symm.trans f8
  · exact (k4 9 (by omega)).symm.trans f9
  · exact (k5 0 (by omega)).symm.trans ((k50 0 (by omega)).symm.trans p0)
  · exact (k5 1 (by omega)).symm.trans ((k50 1 (by omega)).symm.trans p1)
  · exact (k5 2 (by omega)).symm.trans ((k50 2 (by omega)).symm.trans p2)
  · exact (k5 3 (by omega)).symm.trans p3
  · exact (k5 4 (by omega)).symm.trans p4
  · exact (k5 5 (by omega)).symm.trans p5

set_option maxRecDepth 100000 in
theorem evs_open {H : Type} {enc : TypeId × Value → H} {w : World} {base : Nat} {spare : Nat → Bool} {held : Bool} {a : Option Addr} {len cap : Nat} {d : DataW H} {p : List MemPlace} (hs : ∀ b, spare b = true)
    (h : DataW.Trod enc Try.prog w base spare held 22 (.slice a len cap) d p) : len ≤ cap ∧ len ≤ maxLen ∧ ∃ l : List Ev, l.length = len ∧ EvsAt w w.heap.size a l := by
  have hcap := slice_cap Try.underlying22 h
  obtain ⟨m, r⟩ := row_open Try.underlying22 (by rw [cellsEv]; omega) hs h
  rw [cellsEv] at r
  refine ⟨hcap, m, ?_⟩
  have key : ∀ i, i < len → ∃ x : Ev, ((EvWf x ∧ MemAt w w.heap.size x.av x.ms) ∧ (evC x).all (·.oneCell') = true) ∧ ∀ b o, a = some ⟨b, o, none⟩ → w.rangeAt b (o + i * 22) (evC x).toList := by
    intro i hi
    obtain ⟨b, o, rfl, hb, hc⟩ := r (by omega)
    obtain ⟨cs, n, y, ht, hl, hcs⟩ := hc i hi
    obtain ⟨x, h1, h2, h3⟩ := ev_open hs ht
    refine ⟨x, ⟨h1, h2⟩, fun b' o' e j v hj => ?_⟩
    cases e
    have hjl : j < 22 := (List.getElem?_eq_some_iff.1 hj).1
    exact (hcs j hjl).trans (h3 j v hj)
  haveI : Inhabited Ev := ⟨⟨0, 0, 0, 0, 0, 0, 0, 0, 0, 0, 0, false, 0, undef, undef, undef, 0, 0, 0, 0, none, 0, undef, []⟩⟩
  obtain ⟨f, hf⟩ := choose_fn key
  refine ⟨(List.range len).map f, by simp, ⟨fun h0 => ?_, fun x hx => ?_, fun x hx => ?_⟩⟩
  · rw [List.length_map, List.length_range] at h0
    obtain ⟨b, o, rfl, hb, _⟩ := r h0
    refine ⟨b, o, rfl, hb, fun i x hx => ?_⟩
    rw [List.getElem?_map] at hx
    obtain ⟨i', hi', rfl⟩ := Option.map_eq_some_iff.1 hx
    have hil : i < len := by have := (List.getElem?_eq_some_iff.1 hi').1; simpa using this
    have : i' = i := by rw [List.getElem?_range hil] at hi'; cases hi'; rfl
    subst this
    exact (hf i' hil).2 b o rfl
  · obtain ⟨i, hi, rfl⟩ := List.mem_map.1 hx
    exact (hf i (List.mem_range.1 hi)).1.1
  · obtain ⟨i, hi, rfl⟩ := List.mem_map.1 hx
    exact (hf i (List.mem_range.1 hi)).1.2
end Go.Proofs.Ytkjfagchololbaa
