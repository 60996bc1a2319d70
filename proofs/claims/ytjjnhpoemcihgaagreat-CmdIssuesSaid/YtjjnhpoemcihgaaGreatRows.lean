/-
  No cell of these rows narrows 'for every input' (looked for: loops, veiled, ifaces, maps, wideKeys, modest, calm, conditions, laid).
  DERIVED. THE GIVEN ROWS OF THIS SEAT. 4 by the template 'for every input the law returns true; each argument reads behind the call as it read before'; 0 by the template 'total and deterministic' (their statements: YtjjnhpoemcihgaaGreatTotals.lean).
  GIVEN WITH THE SEED: the statements are not yours to turn. If you find one false, say at which input.
  Laid BY PROGRAM, IN A SANDBOX (cutbox-rows.mjs): the forced cells as the released guide's own fill.sh prints them over the translation 93e5c5855fd239e1… (all of the seat's roots in one cut). By AI agents, Wed Nov 11 2026. No macro, syntax, notation, axiom, sorry.
-/
import Derived.Test.YtjjnhpoemcihgaaGreatChecked
import GoSem.Claim
import GoSem.ClaimJoined
import GoSem.ClaimMapViews
import Derived.JoinedTies
import Derived.KernelRfl
namespace Go.Proofs.YtjjnhpoemcihgaaGreat
/- THE CELL 'sum', in the pinned program and in every row, IS THE sha256 OF THE DUMP (.gsa) THAT YtjjnhpoemcihgaaGreatProg.lean LOADS. Nothing in Lean hashes anything: it is a label: what it is worth is what the hold of that sum in a sandbox is worth. -/
noncomputable def Tryz.pinned : Pinned := { name := "ytjjnhpoemcihgaagreat", sum := "93e5c5855fd239e1bda056d60616dd2206abdfd6bad909e1e4a88f04e6a4de8e", checked := Tryz.checked }
namespace Rows
def none {H : Type} : Left H := { results := [], args := [] }

/-- 'complinelaw28.CmdNone': WHATEVER THE INPUT: true; the input reads as it did. -/
def cmdNoneSpec : ChangeSpec := { name := "cmdNone", fn := fun _ => fun
  | [d] => { results := [.lit (.bool true)], args := [d] }
  | _ => none }
def cmdNoneRow : OpenClaim := { program := "ytjjnhpoemcihgaagreat", sum := "93e5c5855fd239e1bda056d60616dd2206abdfd6bad909e1e4a88f04e6a4de8e", func := "compline/complinelaw28.CmdNone", spec := "cmdNone", inPlace := ["maps.clone", "math/bits.Add64"], unfollowed := true, recurses := true, named := ["math/bits.divideError", "math/bits.overflowError"], plainKeys := false, apart := false }
def CmdNoneSaid : Prop := cmdNoneRow.holds Tryz.pinned (OpenSpec.ofChange cmdNoneSpec)

/-- ITS FALSE NEIGHBOUR: 'it returns false'. Refute it at one input. -/
def cmdNoneWrong : ChangeSpec := { name := "cmdNone", fn := fun _ => fun
  | [d] => { results := [.lit (.bool false)], args := [d] }
  | _ => none }
def CmdNoneWrongFalsely : Prop := cmdNoneRow.holds Tryz.pinned (OpenSpec.ofChange cmdNoneWrong)

/-- 'complinelaw28.CmdIssues': WHATEVER THE INPUT: true; the input reads as it did. -/
def cmdIssuesSpec : ChangeSpec := { name := "cmdIssues", fn := fun _ => fun
  | [d1, d2, d3, d4] => { results := [.lit (.bool true)], args := [d1, d2, d3, d4] }
  | _ => none }
def cmdIssuesRow : OpenClaim := { program := "ytjjnhpoemcihgaagreat", sum := "93e5c5855fd239e1bda056d60616dd2206abdfd6bad909e1e4a88f04e6a4de8e", func := "compline/complinelaw28.CmdIssues", spec := "cmdIssues", inPlace := ["maps.clone", "math/bits.Add64"], unfollowed := true, recurses := true, named := ["math/bits.divideError", "math/bits.overflowError"], plainKeys := false, apart := false }
def CmdIssuesSaid : Prop := cmdIssuesRow.holds Tryz.pinned (OpenSpec.ofChange cmdIssuesSpec)

/-- ITS FALSE NEIGHBOUR: 'it returns false'. Refute it at one input. -/
def cmdIssuesWrong : ChangeSpec := { name := "cmdIssues", fn := fun _ => fun
  | [d1, d2, d3, d4] => { results := [.lit (.bool false)], args := [d1, d2, d3, d4] }
  | _ => none }
def CmdIssuesWrongFalsely : Prop := cmdIssuesRow.holds Tryz.pinned (OpenSpec.ofChange cmdIssuesWrong)

/-- 'complinelaw28.CmdBytes': WHATEVER THE INPUT: true; the input reads as it did. -/
def cmdBytesSpec : ChangeSpec := { name := "cmdBytes", fn := fun _ => fun
  | [d1, d2, d3] => { results := [.lit (.bool true)], args := [d1, d2, d3] }
  | _ => none }
def cmdBytesRow : OpenClaim := { program := "ytjjnhpoemcihgaagreat", sum := "93e5c5855fd239e1bda056d60616dd2206abdfd6bad909e1e4a88f04e6a4de8e", func := "compline/complinelaw28.CmdBytes", spec := "cmdBytes", inPlace := ["maps.clone", "math/bits.Add64"], unfollowed := true, recurses := true, named := ["math/bits.divideError", "math/bits.overflowError"], plainKeys := false, apart := false }
def CmdBytesSaid : Prop := cmdBytesRow.holds Tryz.pinned (OpenSpec.ofChange cmdBytesSpec)

/-- ITS FALSE NEIGHBOUR: 'it returns false'. Refute it at one input. -/
def cmdBytesWrong : ChangeSpec := { name := "cmdBytes", fn := fun _ => fun
  | [d1, d2, d3] => { results := [.lit (.bool false)], args := [d1, d2, d3] }
  | _ => none }
def CmdBytesWrongFalsely : Prop := cmdBytesRow.holds Tryz.pinned (OpenSpec.ofChange cmdBytesWrong)

/-- 'complinelaw28.CmdBack': WHATEVER THE INPUT: true; the input reads as it did. -/
def cmdBackSpec : ChangeSpec := { name := "cmdBack", fn := fun _ => fun
  | [d1, d2, d3] => { results := [.lit (.bool true)], args := [d1, d2, d3] }
  | _ => none }
def cmdBackRow : OpenClaim := { program := "ytjjnhpoemcihgaagreat", sum := "93e5c5855fd239e1bda056d60616dd2206abdfd6bad909e1e4a88f04e6a4de8e", func := "compline/complinelaw28.CmdBack", spec := "cmdBack", inPlace := ["maps.clone", "math/bits.Add64"], unfollowed := true, recurses := true, named := ["math/bits.divideError", "math/bits.overflowError"], plainKeys := false, apart := false }
def CmdBackSaid : Prop := cmdBackRow.holds Tryz.pinned (OpenSpec.ofChange cmdBackSpec)

/-- ITS FALSE NEIGHBOUR: 'it returns false'. Refute it at one input. -/
def cmdBackWrong : ChangeSpec := { name := "cmdBack", fn := fun _ => fun
  | [d1, d2, d3] => { results := [.lit (.bool false)], args := [d1, d2, d3] }
  | _ => none }
def CmdBackWrongFalsely : Prop := cmdBackRow.holds Tryz.pinned (OpenSpec.ofChange cmdBackWrong)

/- THE SECOND FORM. 'bulk': how many values and letters a reading holds, each counted each time it is reached (what is shared counts as often as it is met; a slice's spare places count too). A statement '..UptoSaid' is the law's where the arguments, and the package variables that the reading takes, are together of bulk at most 1048576: NARROWER than '..Said'. Prove '..Said' where nothing that the law and all that it calls make is longer than what came in: it says more and counts as full. Else prove '..UptoSaid'. A law counts once. -/
mutual
def uptoBulk {H : Type} : DataW H → Nat
  | .lit (.string bytes) => bytes.length + 1
  | .lit _ => 1
  | .nil => 1
  | .ptr d => uptoBulk d + 1
  | .slice elems spare => uptoBulkAll elems + uptoBulkAll spare + 1
  | .agg parts => uptoBulkAll parts + 1
  | .iface _ d => uptoBulk d + 1
  | .map entries => uptoBulkEntries entries + 1
  | .held _ => 1
def uptoBulkAll {H : Type} : List (DataW H) → Nat
  | [] => 0
  | d :: r => uptoBulk d + uptoBulkAll r
def uptoBulkEntries {H : Type} : List (Lit × DataW H) → Nat
  | [] => 0
  | x :: r => uptoBulkEntry x + uptoBulkEntries r
def uptoBulkEntry {H : Type} : Lit × DataW H → Nat
  | (.string bytes, d) => bytes.length + uptoBulk d + 1
  | (_, d) => uptoBulk d + 1
 end
def uptoSmall : (H : Type) → List (DataW H) → Bool := fun _ ds => decide (uptoBulkAll ds ≤ 1048576)
def OpenSpec.upto (s : _root_.Go.ChangeSpec) : _root_.Go.OpenSpec := { _root_.Go.OpenSpec.ofChange s with cond := some uptoSmall }

/-- 'complinelaw28.CmdNone', WHERE WHAT IT READS IS OF BULK AT MOST 1048576: true; the input reads as it did. -/
def cmdNoneUptoRow : OpenClaim := { program := "ytjjnhpoemcihgaagreat", sum := "93e5c5855fd239e1bda056d60616dd2206abdfd6bad909e1e4a88f04e6a4de8e", func := "compline/complinelaw28.CmdNone", spec := "cmdNone", inPlace := ["maps.clone", "math/bits.Add64"], unfollowed := true, recurses := true, named := ["math/bits.divideError", "math/bits.overflowError"], plainKeys := false, apart := false, narrowed := true }
def CmdNoneUptoSaid : Prop := cmdNoneUptoRow.holds Tryz.pinned (OpenSpec.upto cmdNoneSpec)

/-- 'complinelaw28.CmdIssues', WHERE WHAT IT READS IS OF BULK AT MOST 1048576: true; the input reads as it did. -/
def cmdIssuesUptoRow : OpenClaim := { program := "ytjjnhpoemcihgaagreat", sum := "93e5c5855fd239e1bda056d60616dd2206abdfd6bad909e1e4a88f04e6a4de8e", func := "compline/complinelaw28.CmdIssues", spec := "cmdIssues", inPlace := ["maps.clone", "math/bits.Add64"], unfollowed := true, recurses := true, named := ["math/bits.divideError", "math/bits.overflowError"], plainKeys := false, apart := false, narrowed := true }
def CmdIssuesUptoSaid : Prop := cmdIssuesUptoRow.holds Tryz.pinned (OpenSpec.upto cmdIssuesSpec)

/-- 'complinelaw28.CmdBytes', WHERE WHAT IT READS IS OF BULK AT MOST 1048576: true; the input reads as it did. -/
def cmdBytesUptoRow : OpenClaim := { program := "ytjjnhpoemcihgaagreat", sum := "93e5c5855fd239e1bda056d60616dd2206abdfd6bad909e1e4a88f04e6a4de8e", func := "compline/complinelaw28.CmdBytes", spec := "cmdBytes", inPlace := ["maps.clone", "math/bits.Add64"], unfollowed := true, recurses := true, named := ["math/bits.divideError", "math/bits.overflowError"], plainKeys := false, apart := false, narrowed := true }
def CmdBytesUptoSaid : Prop := cmdBytesUptoRow.holds Tryz.pinned (OpenSpec.upto cmdBytesSpec)

/-- 'complinelaw28.CmdBack', WHERE WHAT IT READS IS OF BULK AT MOST 1048576: true; the input reads as it did. -/
def cmdBackUptoRow : OpenClaim := { program := "ytjjnhpoemcihgaagreat", sum := "93e5c5855fd239e1bda056d60616dd2206abdfd6bad909e1e4a88f04e6a4de8e", func := "compline/complinelaw28.CmdBack", spec := "cmdBack", inPlace := ["maps.clone", "math/bits.Add64"], unfollowed := true, recurses := true, named := ["math/bits.divideError", "math/bits.overflowError"], plainKeys := false, apart := false, narrowed := true }
def CmdBackUptoSaid : Prop := cmdBackUptoRow.holds Tryz.pinned (OpenSpec.upto cmdBackSpec)

end Rows
end Go.Proofs.YtjjnhpoemcihgaaGreat
