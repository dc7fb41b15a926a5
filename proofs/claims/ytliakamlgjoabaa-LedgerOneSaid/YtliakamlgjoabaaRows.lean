/-
  No cell of these rows narrows 'for every input' (looked for: loops, veiled, ifaces, maps, wideKeys, modest, calm, conditions, laid).
  DERIVED. THE GIVEN ROWS OF THIS SEAT. 4 by the template 'for every input the law returns true; each argument reads behind the call as it read before'; 0 by the template 'total and deterministic' (their statements: YtliakamlgjoabaaTotals.lean).
  GIVEN WITH THE SEED: the statements are not yours to turn. If you find one false, say at which input.
  Laid BY PROGRAM, IN A SANDBOX (cutbox-rows.mjs): the forced cells as the released guide's own fill.sh prints them over the translation c6a1078c6909e77f… (all of the seat's roots in one cut). By AI agents, Wed Nov 11 2026. No macro, syntax, notation, axiom, sorry.
-/
import Derived.Test.YtliakamlgjoabaaChecked
import GoSem.Claim
import GoSem.ClaimJoined
import GoSem.ClaimMapViews
import Derived.JoinedTies
import Derived.KernelRfl
namespace Go.Proofs.Ytliakamlgjoabaa
/- THE CELL 'sum', in the pinned program and in every row, IS THE sha256 OF THE DUMP (.gsa) THAT YtliakamlgjoabaaProg.lean LOADS. Nothing in Lean hashes anything: it is a label: what it is worth is what the hold of that sum in a sandbox is worth. -/
noncomputable def Try.pinned : Pinned := { name := "ytliakamlgjoabaa", sum := "c6a1078c6909e77f1e2112593f43fa472a892594b6d9274c534b528d11caefa9", checked := Try.checked }
namespace Rows
def none {H : Type} : Left H := { results := [], args := [] }

/-- 'chirographlaw29.LedgerRuns': WHATEVER THE INPUT: true; the input reads as it did. -/
def ledgerRunsSpec : ChangeSpec := { name := "ledgerRuns", fn := fun _ => fun
  | [d1, d2] => { results := [.lit (.bool true)], args := [d1, d2] }
  | _ => none }
def ledgerRunsRow : OpenClaim := { program := "ytliakamlgjoabaa", sum := "c6a1078c6909e77f1e2112593f43fa472a892594b6d9274c534b528d11caefa9", func := "chirograph/chirographlaw29.LedgerRuns", spec := "ledgerRuns", unfollowed := true, recurses := true, plainKeys := false, apart := false }
def LedgerRunsSaid : Prop := ledgerRunsRow.holds Try.pinned (OpenSpec.ofChange ledgerRunsSpec)

/-- ITS FALSE NEIGHBOUR: 'it returns false'. Refute it at one input. -/
def ledgerRunsWrong : ChangeSpec := { name := "ledgerRuns", fn := fun _ => fun
  | [d1, d2] => { results := [.lit (.bool false)], args := [d1, d2] }
  | _ => none }
def LedgerRunsWrongFalsely : Prop := ledgerRunsRow.holds Try.pinned (OpenSpec.ofChange ledgerRunsWrong)

/-- 'chirographlaw29.LedgerOne': WHATEVER THE INPUT: true; the input reads as it did. -/
def ledgerOneSpec : ChangeSpec := { name := "ledgerOne", fn := fun _ => fun
  | [d1, d2] => { results := [.lit (.bool true)], args := [d1, d2] }
  | _ => none }
def ledgerOneRow : OpenClaim := { program := "ytliakamlgjoabaa", sum := "c6a1078c6909e77f1e2112593f43fa472a892594b6d9274c534b528d11caefa9", func := "chirograph/chirographlaw29.LedgerOne", spec := "ledgerOne", unfollowed := true, recurses := true, plainKeys := false, apart := false }
def LedgerOneSaid : Prop := ledgerOneRow.holds Try.pinned (OpenSpec.ofChange ledgerOneSpec)

/-- ITS FALSE NEIGHBOUR: 'it returns false'. Refute it at one input. -/
def ledgerOneWrong : ChangeSpec := { name := "ledgerOne", fn := fun _ => fun
  | [d1, d2] => { results := [.lit (.bool false)], args := [d1, d2] }
  | _ => none }
def LedgerOneWrongFalsely : Prop := ledgerOneRow.holds Try.pinned (OpenSpec.ofChange ledgerOneWrong)

/-- 'chirographlaw29.LedgerPlays': WHATEVER THE INPUT: true; the input reads as it did. -/
def ledgerPlaysSpec : ChangeSpec := { name := "ledgerPlays", fn := fun _ => fun
  | [d1, d2, d3, d4] => { results := [.lit (.bool true)], args := [d1, d2, d3, d4] }
  | _ => none }
def ledgerPlaysRow : OpenClaim := { program := "ytliakamlgjoabaa", sum := "c6a1078c6909e77f1e2112593f43fa472a892594b6d9274c534b528d11caefa9", func := "chirograph/chirographlaw29.LedgerPlays", spec := "ledgerPlays", inPlace := ["maps.clone"], unfollowed := true, recurses := true, plainKeys := false, apart := false }
def LedgerPlaysSaid : Prop := ledgerPlaysRow.holds Try.pinned (OpenSpec.ofChange ledgerPlaysSpec)

/-- ITS FALSE NEIGHBOUR: 'it returns false'. Refute it at one input. -/
def ledgerPlaysWrong : ChangeSpec := { name := "ledgerPlays", fn := fun _ => fun
  | [d1, d2, d3, d4] => { results := [.lit (.bool false)], args := [d1, d2, d3, d4] }
  | _ => none }
def LedgerPlaysWrongFalsely : Prop := ledgerPlaysRow.holds Try.pinned (OpenSpec.ofChange ledgerPlaysWrong)

/-- 'chirographlaw29.LedgerSwaps': WHATEVER THE INPUT: true; the input reads as it did. -/
def ledgerSwapsSpec : ChangeSpec := { name := "ledgerSwaps", fn := fun _ => fun
  | [d1, d2, d3, d4] => { results := [.lit (.bool true)], args := [d1, d2, d3, d4] }
  | _ => none }
def ledgerSwapsRow : OpenClaim := { program := "ytliakamlgjoabaa", sum := "c6a1078c6909e77f1e2112593f43fa472a892594b6d9274c534b528d11caefa9", func := "chirograph/chirographlaw29.LedgerSwaps", spec := "ledgerSwaps", inPlace := ["maps.clone"], unfollowed := true, recurses := true, plainKeys := false, apart := false }
def LedgerSwapsSaid : Prop := ledgerSwapsRow.holds Try.pinned (OpenSpec.ofChange ledgerSwapsSpec)

/-- ITS FALSE NEIGHBOUR: 'it returns false'. Refute it at one input. -/
def ledgerSwapsWrong : ChangeSpec := { name := "ledgerSwaps", fn := fun _ => fun
  | [d1, d2, d3, d4] => { results := [.lit (.bool false)], args := [d1, d2, d3, d4] }
  | _ => none }
def LedgerSwapsWrongFalsely : Prop := ledgerSwapsRow.holds Try.pinned (OpenSpec.ofChange ledgerSwapsWrong)

/- THE SECOND FORM. 'bulk': how many values and letters a reading holds, each counted each time it is reached (what is shared counts as often as it is met; a slice's spare places count too). A statement '..UptoSaid' is the law's where the arguments, and the package variables that the reading takes, are together of bulk at most 1048576: NARROWER than '..Said'. Prove '..Said' where nothing that the law and all that it calls make is longer than what came in: it says more and counts as full. Else prove '..UptoSaid'. A law counts once. -/
mutual
def uptoBulk {H : Type} : DataW H → Nat
  | .lit (.string bytes) => bytes.length + 1
  | .lit _ => 1
  | .nil => 1
  | .ptr d => uptoBulk d + 1
  | .slice elems spare => uptoBulkAll elems + uptoBulkAll spare + 1
  | .agg parts => uptoBulkAll parts + 1
  | .iface _ d => uptoBulk d + 1
  | .map entries => uptoBulkEntries entries + 1
  | .held _ => 1
def uptoBulkAll {H : Type} : List (DataW H) → Nat
  | [] => 0
  | d :: r => uptoBulk d + uptoBulkAll r
def uptoBulkEntries {H : Type} : List (Lit × DataW H) → Nat
  | [] => 0
  | x :: r => uptoBulkEntry x + uptoBulkEntries r
def uptoBulkEntry {H : Type} : Lit × DataW H → Nat
  | (.string bytes, d) => bytes.length + uptoBulk d + 1
  | (_, d) => uptoBulk d + 1
 end
def uptoSmall : (H : Type) → List (DataW H) → Bool := fun _ ds => decide (uptoBulkAll ds ≤ 1048576)
def OpenSpec.upto (s : _root_.Go.ChangeSpec) : _root_.Go.OpenSpec := { _root_.Go.OpenSpec.ofChange s with cond := some uptoSmall }

/-- 'chirographlaw29.LedgerRuns', WHERE WHAT IT READS IS OF BULK AT MOST 1048576: true; the input reads as it did. -/
def ledgerRunsUptoRow : OpenClaim := { program := "ytliakamlgjoabaa", sum := "c6a1078c6909e77f1e2112593f43fa472a892594b6d9274c534b528d11caefa9", func := "chirograph/chirographlaw29.LedgerRuns", spec := "ledgerRuns", unfollowed := true, recurses := true, plainKeys := false, apart := false, narrowed := true }
def LedgerRunsUptoSaid : Prop := ledgerRunsUptoRow.holds Try.pinned (OpenSpec.upto ledgerRunsSpec)

/-- 'chirographlaw29.LedgerOne', WHERE WHAT IT READS IS OF BULK AT MOST 1048576: true; the input reads as it did. -/
def ledgerOneUptoRow : OpenClaim := { program := "ytliakamlgjoabaa", sum := "c6a1078c6909e77f1e2112593f43fa472a892594b6d9274c534b528d11caefa9", func := "chirograph/chirographlaw29.LedgerOne", spec := "ledgerOne", unfollowed := true, recurses := true, plainKeys := false, apart := false, narrowed := true }
def LedgerOneUptoSaid : Prop := ledgerOneUptoRow.holds Try.pinned (OpenSpec.upto ledgerOneSpec)

/-- 'chirographlaw29.LedgerPlays', WHERE WHAT IT READS IS OF BULK AT MOST 1048576: true; the input reads as it did. -/
def ledgerPlaysUptoRow : OpenClaim := { program := "ytliakamlgjoabaa", sum := "c6a1078c6909e77f1e2112593f43fa472a892594b6d9274c534b528d11caefa9", func := "chirograph/chirographlaw29.LedgerPlays", spec := "ledgerPlays", inPlace := ["maps.clone"], unfollowed := true, recurses := true, plainKeys := false, apart := false, narrowed := true }
def LedgerPlaysUptoSaid : Prop := ledgerPlaysUptoRow.holds Try.pinned (OpenSpec.upto ledgerPlaysSpec)

/-- 'chirographlaw29.LedgerSwaps', WHERE WHAT IT READS IS OF BULK AT MOST 1048576: true; the input reads as it did. -/
def ledgerSwapsUptoRow : OpenClaim := { program := "ytliakamlgjoabaa", sum := "c6a1078c6909e77f1e2112593f43fa472a892594b6d9274c534b528d11caefa9", func := "chirograph/chirographlaw29.LedgerSwaps", spec := "ledgerSwaps", inPlace := ["maps.clone"], unfollowed := true, recurses := true, plainKeys := false, apart := false, narrowed := true }
def LedgerSwapsUptoSaid : Prop := ledgerSwapsUptoRow.holds Try.pinned (OpenSpec.upto ledgerSwapsSpec)

end Rows
end Go.Proofs.Ytliakamlgjoabaa
