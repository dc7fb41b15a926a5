/- The events of the chapter's example. -/
import Derived.Test.YtkjfagchololbaaTRows
import Derived.Great.BuildSlice
import Derived.Sort.CutIn
namespace Go.Proofs.Ytkjfagchololbaa
open Go.RowKit Go.Shelf

attribute [local go_sem] Oper.semAt_some

section
variable {F : Fence} {n : Nat} {P : Program} {ops : Array Oper} {Q : Exit → Act → World → Prop} {a : Act} {w : World} {rest : List Oper} {o : Oper}
theorem wpListIn_buildSl (hg : o.guard = none) (t e : TypeId) (len : Nat) (parts : Array (Nat × Operand)) (ho : o.op = .buildSlice t len parts)
    (cells : Array Value) (ie : TypeInfo) (z : Value)
    (hu : P.underlying t = some (.slice e)) (hie : P.info? e = some ie) (hz : ie.zero = some z) (hsmall : ¬ len * ie.size > 2 ^ 24) (hpos : ¬ len * ie.size = 0)
    {l : List (Nat × Value)} (hp : (parts.map fun (i, x) => (i, a.eval x)).toList = l)
    (hf : Instr.fill (fun i => some (i * ie.size, ie.size)) ((Array.range (len * ie.size)).map (z.cells[· % z.cells.size]!)) l = some cells)
    (h : wpListIn F n P ops Q rest (a.put o.dst (.slice (some ⟨w.heap.size, 0, none⟩) len len)) (w.alloc (.cells cells e))) : wpListIn F n P ops Q (o :: rest) a w := by
  subst hp
  refine wpListIn_plain hg fun K hK' => ?_
  unfold Oper.wpIn
  refine ⟨?_, ?_⟩
  · simp [Oper.about, ho]
  · rw [Oper.semAt_plain F _ _ (by rw [ho]; intro c hc'; cases hc')]
    unfold execOp
    simp only [ho, Sem.run_bind, run_buildSlice w t e len _ cells ie z hu hie hz hsmall hpos hf, Result.andThen_ok]
    exact hK' _ _ h
theorem wpListIn_built (hg : o.guard = none) (t : TypeId) (parts : Array (Nat × Operand)) (ho : o.op = .build t parts) (cells : Array Value)
    {l : List (Nat × Value)} (hp : (parts.map fun (i, x) => (i, a.eval x)).toList = l) (hf : P.built t l = some cells) (h : wpListIn F n P ops Q rest (a.put o.dst (.agg cells)) w) : wpListIn F n P ops Q (o :: rest) a w := by
  subst hp
  refine wpListIn_plain hg fun K hK' => ?_
  unfold Oper.wpIn
  refine ⟨?_, ?_⟩
  · simp [Oper.about, ho]
  · rw [Oper.semAt_plain F _ _ (by rw [ho]; intro c hc'; cases hc')]
    unfold execOp
    simp only [ho, Sem.run_bind, run_build w t _ cells hf, Result.andThen_ok]
    exact hK' _ _ h
end

def alD : ByteArray := ⟨#[100, 0]⟩
def alX (mb : Nat) : Ev := ⟨1, 0, 0, 0, 1, 1, 0, 0, 0, 0, 0, false, 0, .slice none 0 0, .slice none 0 0, .string ⟨#[]⟩, 0, 1, 1, 0, some ⟨mb, 0, none⟩, 2, .slice none 0 0, [(1, alD), (2, alD)]⟩
def alY : Ev := ⟨2, 0, 1, 0, 0, 0, 4, 0, 0, 1, 1, true, 0, .slice none 0 0, .slice none 0 0, .string ⟨#[]⟩, 0, 0, 0, 0, none, 0, .slice none 0 0, []⟩
theorem alX_one (mb : Nat) : (evC (alX mb)).all (·.oneCell') = true := by simp [evC, alX, Value.oneCell']
theorem alY_one : (evC alY).all (·.oneCell') = true := by simp [evC, alY, Value.oneCell']
theorem infoEvZ : (Try.prog.info? 43).map (fun i => (i.zero, i.size, i.bytes)) = some (some (.agg (evC ⟨0, 0, 0, 0, 0, 0, 0, 0, 0, 0, 0, false, 0, .slice none 0 0, .slice none 0 0, .string ⟨#[]⟩, 0, 0, 0, 0, none, 0, .slice none 0 0, []⟩)), 22, 248) := by kernel_rfl
theorem alX_wf (mb : Nat) : EvWf (alX mb) := by
  refine ⟨?_, ?_, ⟨?_, ?_, ?_⟩, ⟨?_, ?_, ?_⟩, ?_, ?_, ?_⟩
  · show (0 : Int) ≤ 1 ∧ (1 : Int) ≤ 255; decide
  · show (0 : Int) ≤ 0 ∧ (0 : Int) ≤ 255; decide
  · show (-9223372036854775808 : Int) ≤ 0 ∧ (0 : Int) ≤ 9223372036854775807; decide
  · show (-9223372036854775808 : Int) ≤ 1 ∧ (1 : Int) ≤ 9223372036854775807; decide
  · show (-9223372036854775808 : Int) ≤ 1 ∧ (1 : Int) ≤ 9223372036854775807; decide
  · show (-9223372036854775808 : Int) ≤ 0 ∧ (0 : Int) ≤ 9223372036854775807; decide
  · show (-9223372036854775808 : Int) ≤ 0 ∧ (0 : Int) ≤ 9223372036854775807; decide
  · show (-9223372036854775808 : Int) ≤ 0 ∧ (0 : Int) ≤ 9223372036854775807; decide
  · show (-9223372036854775808 : Int) ≤ 0 ∧ (0 : Int) ≤ 9223372036854775807; decide
  · intro m hm
    simp only [alX, List.mem_cons, List.not_mem_nil, or_false] at hm
    rcases hm with rfl | rfl <;> decide
  · show 2 ≤ maxLen; unfold maxLen; decide
theorem alY_wf : EvWf alY := ⟨by decide, by decide, ⟨by decide, by decide, by decide⟩, ⟨by decide, by decide, by decide⟩, by decide, (fun m hm => by cases hm), by decide⟩
theorem alX_mem {w : World} {mb B : Nat} (h : w.heap[mb]? = some (.cells #[.int .i64 1, .string alD, .int .i64 2, .string alD] 60 (0, 0))) (hB : mb < B) : MemAt w B (alX mb).av (alX mb).ms := by
  refine ⟨fun _ => ⟨mb, 0, rfl, hB, fun i m hi => ?_⟩⟩
  match i, hi with
  | 0, hi => cases hi; constructor <;> (rw [cells7_get h]; rfl)
  | 1, hi => cases hi; constructor <;> (rw [cells7_get h]; rfl)
  | n + 2, hi => simp [alX] at hi
theorem alY_mem {w : World} {B : Nat} : MemAt w B alY.av alY.ms := ⟨fun h => by simp [alY] at h⟩
theorem al_one0 (mb : Nat) : oneO 0 (alX mb) = some ⟨1, 0, 1, 1, 0, false, 6⟩ := by kernel_rfl
theorem al_one1 (mb : Nat) : oneO 1 (alX mb) = none := by kernel_rfl
theorem al_chk (mb : Nat) : chkV 0 [alX mb, alY] = (1, 290) := by kernel_rfl
theorem al_run (mb : Nat) : ∃ r : Row, r.begun = true ∧ runT 0 [] (actsTo 0 [alX mb] [alX mb].length) = .inl [r] := ⟨⟨0, 1, 1, true, 6, 0, 0, false, false, 0⟩, rfl, by kernel_rfl⟩

theorem alY_built (n : Nat) : Try.prog.built 43 [(0, .int .u8 2), (2, .int .i64 1), (4, .agg #[.int .u8 4, .int .i64 0, .int .i64 0, .int .i64 1, .int .i64 1, .bool true, .int .i64 0, .slice none 0 0, .slice none 0 0, .string ⟨#[]⟩])] = some (evC alY) := by kernel_rfl
theorem alXY_fill (mb : Nat) : Instr.fill (fun i => some (i * 22, 22)) ((Array.range (2 * 22)).map ((Value.agg (evC ⟨0, 0, 0, 0, 0, 0, 0, 0, 0, 0, 0, false, 0, .slice none 0 0, .slice none 0 0, .string ⟨#[]⟩, 0, 0, 0, 0, none, 0, .slice none 0 0, []⟩)).cells[· % (Value.agg (evC ⟨0, 0, 0, 0, 0, 0, 0, 0, 0, 0, 0, false, 0, .slice none 0 0, .slice none 0 0, .string ⟨#[]⟩, 0, 0, 0, 0, none, 0, .slice none 0 0, []⟩)).cells.size]!)) [(0, .agg (evC (alX mb))), (1, .agg (evC alY))] = some (evC (alX mb) ++ evC alY) := by kernel_rfl
theorem alX_fill (mb : Nat) : Instr.fill (fun i => some (i * 22, 22)) ((Array.range (1 * 22)).map ((Value.agg (evC ⟨0, 0, 0, 0, 0, 0, 0, 0, 0, 0, 0, false, 0, .slice none 0 0, .slice none 0 0, .string ⟨#[]⟩, 0, 0, 0, 0, none, 0, .slice none 0 0, []⟩)).cells[· % (Value.agg (evC ⟨0, 0, 0, 0, 0, 0, 0, 0, 0, 0, 0, false, 0, .slice none 0 0, .slice none 0 0, .string ⟨#[]⟩, 0, 0, 0, 0, none, 0, .slice none 0 0, []⟩)).cells.size]!)) [(0, .agg (evC (alX mb)))] = some (evC (alX mb)) := by kernel_rfl
theorem alXY_evs {w : World} {b mb : Nat} (h : w.heap[b]? = some (.cells (evC (alX mb) ++ evC alY) 43 (0, 0))) (hm : w.heap[mb]? = some (.cells #[.int .i64 1, .string alD, .int .i64 2, .string alD] 60 (0, 0))) : EvsAt w w.heap.size (some ⟨b, 0, none⟩) [alX mb, alY] := by
  have hb : b < w.heap.size := (Array.getElem?_eq_some_iff.1 h).1
  have hmb : mb < w.heap.size := (Array.getElem?_eq_some_iff.1 hm).1
  refine ⟨fun _ => ⟨b, 0, rfl, hb, fun i x hi j v hj => ?_⟩, fun x hx => ?_, fun x hx => ?_⟩
  · have hj' : (evC x)[j]? = some v := by rw [Array.getElem?_toList] at hj; exact hj
    have hjl : j < 22 := (Array.getElem?_eq_some_iff.1 hj').1
    rw [cells7_get h]
    match i, hi with
    | 0, hi =>
      cases hi
      rw [show 0 + 0 * 22 + j = j by omega, Array.getElem?_append_left (show j < (evC (alX mb)).size from hjl)]
      exact hj'
    | 1, hi =>
      cases hi
      rw [Array.getElem?_append_right (show (evC (alX mb)).size ≤ 0 + 1 * 22 + j from by show 22 ≤ _; omega)]
      rw [show 0 + 1 * 22 + j - (evC (alX mb)).size = j from by show 0 + 1 * 22 + j - 22 = j; omega]
      exact hj'
    | n + 2, hi => simp at hi
  · simp only [List.mem_cons, List.not_mem_nil, or_false] at hx
    rcases hx with rfl | rfl
    · exact ⟨alX_wf _, alX_mem hm hmb⟩
    · exact ⟨alY_wf, alY_mem⟩
  · simp only [List.mem_cons, List.not_mem_nil, or_false] at hx
    rcases hx with rfl | rfl
    · exact alX_one _
    · exact alY_one
theorem alX_evs {w : World} {b mb : Nat} (h : w.heap[b]? = some (.cells (evC (alX mb)) 43 (0, 0))) (hm : w.heap[mb]? = some (.cells #[.int .i64 1, .string alD, .int .i64 2, .string alD] 60 (0, 0))) : EvsAt w w.heap.size (some ⟨b, 0, none⟩) [alX mb] := by
  have hb : b < w.heap.size := (Array.getElem?_eq_some_iff.1 h).1
  have hmb : mb < w.heap.size := (Array.getElem?_eq_some_iff.1 hm).1
  refine ⟨fun _ => ⟨b, 0, rfl, hb, fun i x hi j v hj => ?_⟩, fun x hx => ?_, fun x hx => ?_⟩
  · have hj' : (evC x)[j]? = some v := by rw [Array.getElem?_toList] at hj; exact hj
    rw [cells7_get h]
    match i, hi with
    | 0, hi =>
      cases hi
      rw [show 0 + 0 * 22 + j = j by omega]
      exact hj'
    | n + 1, hi => simp at hi
  · simp only [List.mem_cons, List.not_mem_nil, or_false] at hx
    subst hx
    exact ⟨alX_wf _, alX_mem hm hmb⟩
  · simp only [List.mem_cons, List.not_mem_nil, or_false] at hx
    subst hx
    exact alX_one _
end Go.Proofs.Ytkjfagchololbaa
