/- How one action that came in is opened. -/
import Derived.Test.YtliakamlgjoabaaLOpen
namespace Go.Proofs.Ytliakamlgjoabaa
open Go.ChangeShapes Go.WideShapes Go.Deep Go.RowKit

theorem act_arg {H : Type} {enc : TypeId × Value → H} {w : World} {base : Nat} {spare : Nat → Bool} {held : Bool} {cs : Array Value} {d : DataW H} {p : List MemPlace} (hsz : cs.size = Try.prog.cellsOf 35)
    (h : DataW.Trod enc Try.prog w base spare held 35 (.agg cs) d p) : ∃ a : Act', ActWf a ∧ Value.agg cs = actV a := by
  rw [cellsAct] at hsz
  obtain ⟨n, hn⟩ := h
  obtain ⟨a, ha, e0, e1, e2, e3, e4, e5, e6⟩ := act_open hn
  refine ⟨a, ha, ?_⟩
  have key : cs.toList = [.int .u8 a.kind, .int .i64 a.c, .int .i64 a.e, .int .i64 a.q, .int .i64 a.org, .bool a.yes, .int .u8 a.orgs] := by
    have hl : cs.toList.length = 7 := by simpa using hsz
    change cs.toList[0]? = _ at e0
    change cs.toList[1]? = _ at e1
    change cs.toList[2]? = _ at e2
    change cs.toList[3]? = _ at e3
    change cs.toList[4]? = _ at e4
    change cs.toList[5]? = _ at e5
    change cs.toList[6]? = _ at e6
    generalize cs.toList = l at *
    match l, hl with
    | [v0, v1, v2, v3, v4, v5, v6], _ =>
      simp at e0 e1 e2 e3 e4 e5 e6
      rw [e0, e1, e2, e3, e4, e5, e6]
  have : cs = #[.int .u8 a.kind, .int .i64 a.c, .int .i64 a.e, .int .i64 a.q, .int .i64 a.org, .bool a.yes, .int .u8 a.orgs] := by
    apply Array.toList_inj.1
    exact key
  rw [this]
  rfl
end Go.Proofs.Ytliakamlgjoabaa
