/-
  No cell of these rows narrows 'for every input' (looked for: loops, veiled, ifaces, maps, wideKeys, modest, calm, conditions, laid).
  DERIVED. THE GIVEN ROWS OF THIS SEAT. 4 by the template 'for every input the law returns true; each argument reads behind the call as it read before'; 0 by the template 'total and deterministic' (their statements: YtflbbpmlcllamaaTotals.lean).
  GIVEN WITH THE SEED: the statements are not yours to turn. If you find one false, say at which input.
  Laid BY PROGRAM, IN A SANDBOX (cutbox-rows.mjs): the forced cells as the released guide's own fill.sh prints them over the translation 94d688e9971e794b… (all of the seat's roots in one cut). By AI agents, Wed Nov 11 2026. No macro, syntax, notation, axiom, sorry.
-/
import Derived.Test.YtflbbpmlcllamaaChecked
import GoSem.Claim
import GoSem.ClaimJoined
import GoSem.ClaimMapViews
import Derived.JoinedTies
import Derived.KernelRfl
namespace Go.Proofs.Ytflbbpmlcllamaa
/- THE CELL 'sum', in the pinned program and in every row, IS THE sha256 OF THE DUMP (.gsa) THAT YtflbbpmlcllamaaProg.lean LOADS. Nothing in Lean hashes anything: it is a label: what it is worth is what the hold of that sum in a sandbox is worth. -/
noncomputable def Try.pinned : Pinned := { name := "ytflbbpmlcllamaa", sum := "94d688e9971e794b94387542d3c9d10f49e38a0f35a8b1a267deec67888baf5d", checked := Try.checked }
namespace Rows
def none {H : Type} : Left H := { results := [], args := [] }

/-- 'chirographlaw05.NameTells': WHATEVER THE INPUT: true; the input reads as it did. -/
def nameTellsSpec : ChangeSpec := { name := "nameTells", fn := fun _ => fun
  | [d1, d2] => { results := [.lit (.bool true)], args := [d1, d2] }
  | _ => none }
def nameTellsRow : OpenClaim := { program := "ytflbbpmlcllamaa", sum := "94d688e9971e794b94387542d3c9d10f49e38a0f35a8b1a267deec67888baf5d", func := "chirograph/chirographlaw05.NameTells", spec := "nameTells", apart := false }
def NameTellsSaid : Prop := nameTellsRow.holds Try.pinned (OpenSpec.ofChange nameTellsSpec)

/-- ITS FALSE NEIGHBOUR: 'it returns false'. Refute it at one input. -/
def nameTellsWrong : ChangeSpec := { name := "nameTells", fn := fun _ => fun
  | [d1, d2] => { results := [.lit (.bool false)], args := [d1, d2] }
  | _ => none }
def NameTellsWrongFalsely : Prop := nameTellsRow.holds Try.pinned (OpenSpec.ofChange nameTellsWrong)

/-- 'chirographlaw05.NameClash': WHATEVER THE INPUT: true; the input reads as it did. -/
def nameClashSpec : ChangeSpec := { name := "nameClash", fn := fun _ => fun
  | [d1, d2, d3, d4] => { results := [.lit (.bool true)], args := [d1, d2, d3, d4] }
  | _ => none }
def nameClashRow : OpenClaim := { program := "ytflbbpmlcllamaa", sum := "94d688e9971e794b94387542d3c9d10f49e38a0f35a8b1a267deec67888baf5d", func := "chirograph/chirographlaw05.NameClash", spec := "nameClash", apart := false }
def NameClashSaid : Prop := nameClashRow.holds Try.pinned (OpenSpec.ofChange nameClashSpec)

/-- ITS FALSE NEIGHBOUR: 'it returns false'. Refute it at one input. -/
def nameClashWrong : ChangeSpec := { name := "nameClash", fn := fun _ => fun
  | [d1, d2, d3, d4] => { results := [.lit (.bool false)], args := [d1, d2, d3, d4] }
  | _ => none }
def NameClashWrongFalsely : Prop := nameClashRow.holds Try.pinned (OpenSpec.ofChange nameClashWrong)

/-- 'chirographlaw05.NameOrders': WHATEVER THE INPUT: true; the input reads as it did. -/
def nameOrdersSpec : ChangeSpec := { name := "nameOrders", fn := fun _ => fun
  | [d1, d2] => { results := [.lit (.bool true)], args := [d1, d2] }
  | _ => none }
def nameOrdersRow : OpenClaim := { program := "ytflbbpmlcllamaa", sum := "94d688e9971e794b94387542d3c9d10f49e38a0f35a8b1a267deec67888baf5d", func := "chirograph/chirographlaw05.NameOrders", spec := "nameOrders", apart := false }
def NameOrdersSaid : Prop := nameOrdersRow.holds Try.pinned (OpenSpec.ofChange nameOrdersSpec)

/-- ITS FALSE NEIGHBOUR: 'it returns false'. Refute it at one input. -/
def nameOrdersWrong : ChangeSpec := { name := "nameOrders", fn := fun _ => fun
  | [d1, d2] => { results := [.lit (.bool false)], args := [d1, d2] }
  | _ => none }
def NameOrdersWrongFalsely : Prop := nameOrdersRow.holds Try.pinned (OpenSpec.ofChange nameOrdersWrong)

/-- 'chirographlaw05.NameRow': WHATEVER THE INPUT: true; the input reads as it did. -/
def nameRowSpec : ChangeSpec := { name := "nameRow", fn := fun _ => fun
  | [d1, d2, d3] => { results := [.lit (.bool true)], args := [d1, d2, d3] }
  | _ => none }
def nameRowRow : OpenClaim := { program := "ytflbbpmlcllamaa", sum := "94d688e9971e794b94387542d3c9d10f49e38a0f35a8b1a267deec67888baf5d", func := "chirograph/chirographlaw05.NameRow", spec := "nameRow", apart := false }
def NameRowSaid : Prop := nameRowRow.holds Try.pinned (OpenSpec.ofChange nameRowSpec)

/-- ITS FALSE NEIGHBOUR: 'it returns false'. Refute it at one input. -/
def nameRowWrong : ChangeSpec := { name := "nameRow", fn := fun _ => fun
  | [d1, d2, d3] => { results := [.lit (.bool false)], args := [d1, d2, d3] }
  | _ => none }
def NameRowWrongFalsely : Prop := nameRowRow.holds Try.pinned (OpenSpec.ofChange nameRowWrong)

/- THE SECOND FORM. 'bulk': how many values and letters a reading holds, each counted each time it is reached (what is shared counts as often as it is met; a slice's spare places count too). A statement '..UptoSaid' is the law's where the arguments, and the package variables that the reading takes, are together of bulk at most 1048576: NARROWER than '..Said'. Prove '..Said' where nothing that the law and all that it calls make is longer than what came in: it says more and counts as full. Else prove '..UptoSaid'. A law counts once. -/
mutual
def uptoBulk {H : Type} : DataW H → Nat
  | .lit (.string bytes) => bytes.length + 1
  | .lit _ => 1
  | .nil => 1
  | .ptr d => uptoBulk d + 1
  | .slice elems spare => uptoBulkAll elems + uptoBulkAll spare + 1
  | .agg parts => uptoBulkAll parts + 1
  | .iface _ d => uptoBulk d + 1
  | .map entries => uptoBulkEntries entries + 1
  | .held _ => 1
def uptoBulkAll {H : Type} : List (DataW H) → Nat
  | [] => 0
  | d :: r => uptoBulk d + uptoBulkAll r
def uptoBulkEntries {H : Type} : List (Lit × DataW H) → Nat
  | [] => 0
  | x :: r => uptoBulkEntry x + uptoBulkEntries r
def uptoBulkEntry {H : Type} : Lit × DataW H → Nat
  | (.string bytes, d) => bytes.length + uptoBulk d + 1
  | (_, d) => uptoBulk d + 1
 end
def uptoSmall : (H : Type) → List (DataW H) → Bool := fun _ ds => decide (uptoBulkAll ds ≤ 1048576)
def OpenSpec.upto (s : _root_.Go.ChangeSpec) : _root_.Go.OpenSpec := { _root_.Go.OpenSpec.ofChange s with cond := some uptoSmall }

/-- 'chirographlaw05.NameTells', WHERE WHAT IT READS IS OF BULK AT MOST 1048576: true; the input reads as it did. -/
def nameTellsUptoRow : OpenClaim := { program := "ytflbbpmlcllamaa", sum := "94d688e9971e794b94387542d3c9d10f49e38a0f35a8b1a267deec67888baf5d", func := "chirograph/chirographlaw05.NameTells", spec := "nameTells", apart := false, narrowed := true }
def NameTellsUptoSaid : Prop := nameTellsUptoRow.holds Try.pinned (OpenSpec.upto nameTellsSpec)

/-- 'chirographlaw05.NameClash', WHERE WHAT IT READS IS OF BULK AT MOST 1048576: true; the input reads as it did. -/
def nameClashUptoRow : OpenClaim := { program := "ytflbbpmlcllamaa", sum := "94d688e9971e794b94387542d3c9d10f49e38a0f35a8b1a267deec67888baf5d", func := "chirograph/chirographlaw05.NameClash", spec := "nameClash", apart := false, narrowed := true }
def NameClashUptoSaid : Prop := nameClashUptoRow.holds Try.pinned (OpenSpec.upto nameClashSpec)

/-- 'chirographlaw05.NameOrders', WHERE WHAT IT READS IS OF BULK AT MOST 1048576: true; the input reads as it did. -/
def nameOrdersUptoRow : OpenClaim := { program := "ytflbbpmlcllamaa", sum := "94d688e9971e794b94387542d3c9d10f49e38a0f35a8b1a267deec67888baf5d", func := "chirograph/chirographlaw05.NameOrders", spec := "nameOrders", apart := false, narrowed := true }
def NameOrdersUptoSaid : Prop := nameOrdersUptoRow.holds Try.pinned (OpenSpec.upto nameOrdersSpec)

/-- 'chirographlaw05.NameRow', WHERE WHAT IT READS IS OF BULK AT MOST 1048576: true; the input reads as it did. -/
def nameRowUptoRow : OpenClaim := { program := "ytflbbpmlcllamaa", sum := "94d688e9971e794b94387542d3c9d10f49e38a0f35a8b1a267deec67888baf5d", func := "chirograph/chirographlaw05.NameRow", spec := "nameRow", apart := false, narrowed := true }
def NameRowUptoSaid : Prop := nameRowUptoRow.holds Try.pinned (OpenSpec.upto nameRowSpec)

end Rows
end Go.Proofs.Ytflbbpmlcllamaa
