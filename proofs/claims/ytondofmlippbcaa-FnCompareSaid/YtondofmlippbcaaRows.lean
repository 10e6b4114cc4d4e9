/-
  NARROWER THAN 'FOR EVERY INPUT', by the rows' own cells (each row's printed sentence says how): FnExactCount: loops.
  DERIVED. THE GIVEN ROWS OF THIS SEAT. 3 by the template 'for every input the law returns true; each argument reads behind the call as it read before'; 0 by the template 'total and deterministic' (their statements: YtondofmlippbcaaTotals.lean).
  GIVEN WITH THE SEED: the statements are not yours to turn. If you find one false, say at which input.
  Laid BY PROGRAM, IN A SANDBOX (cutbox-rows.mjs): the forced cells as the released guide's own fill.sh prints them over the translation d4ad10913e88feb2… (all of the seat's roots in one cut). By AI agents, Wed Nov 11 2026. No macro, syntax, notation, axiom, sorry.
-/
import Derived.Test.YtondofmlippbcaaChecked
import GoSem.Claim
import GoSem.ClaimJoined
import GoSem.ClaimMapViews
import Derived.JoinedTies
import Derived.KernelRfl
namespace Go.Proofs.Ytondofmlippbcaa
/- THE CELL 'sum', in the pinned program and in every row, IS THE sha256 OF THE DUMP (.gsa) THAT YtondofmlippbcaaProg.lean LOADS. Nothing in Lean hashes anything: it is a label: what it is worth is what the hold of that sum in a sandbox is worth. -/
noncomputable def Try.pinned : Pinned := { name := "ytondofmlippbcaa", sum := "d4ad10913e88feb29aca82a9a26d9b2a053554860b050bc79d968aab6de8cf35", checked := Try.checked }
namespace Rows
def none {H : Type} : Left H := { results := [], args := [] }

/-- 'laws.FnExactHolds': WHATEVER THE INPUT: true; the input reads as it did. -/
def fnExactHoldsSpec : ChangeSpec := { name := "fnExactHolds", fn := fun _ => fun
  | [d1, d2, d3] => { results := [.lit (.bool true)], args := [d1, d2, d3] }
  | _ => none }
def fnExactHoldsRow : OpenClaim := { program := "ytondofmlippbcaa", sum := "d4ad10913e88feb29aca82a9a26d9b2a053554860b050bc79d968aab6de8cf35", func := "loop.example/g00751/laws.FnExactHolds", spec := "fnExactHolds", inPlace := ["internal/bytealg.IndexByteString", "internal/bytealg.IndexString"], unfollowed := true, recurses := true, named := ["internal/bytealg.MaxLen"], apart := false }
def FnExactHoldsSaid : Prop := fnExactHoldsRow.holds Try.pinned (OpenSpec.ofChange fnExactHoldsSpec)

/-- ITS FALSE NEIGHBOUR: 'it returns false'. Refute it at one input. -/
def fnExactHoldsWrong : ChangeSpec := { name := "fnExactHolds", fn := fun _ => fun
  | [d1, d2, d3] => { results := [.lit (.bool false)], args := [d1, d2, d3] }
  | _ => none }
def FnExactHoldsWrongFalsely : Prop := fnExactHoldsRow.holds Try.pinned (OpenSpec.ofChange fnExactHoldsWrong)

/-- 'laws.FnCompare': WHATEVER THE INPUT: true; the input reads as it did. -/
def fnCompareSpec : ChangeSpec := { name := "fnCompare", fn := fun _ => fun
  | [d] => { results := [.lit (.bool true)], args := [d] }
  | _ => none }
def fnCompareRow : OpenClaim := { program := "ytondofmlippbcaa", sum := "d4ad10913e88feb29aca82a9a26d9b2a053554860b050bc79d968aab6de8cf35", func := "loop.example/g00751/laws.FnCompare", spec := "fnCompare", inPlace := ["internal/bytealg.IndexByteString", "internal/bytealg.IndexString"], unfollowed := true, recurses := true, named := ["internal/bytealg.MaxLen"], apart := false }
def FnCompareSaid : Prop := fnCompareRow.holds Try.pinned (OpenSpec.ofChange fnCompareSpec)

/-- ITS FALSE NEIGHBOUR: 'it returns false'. Refute it at one input. -/
def fnCompareWrong : ChangeSpec := { name := "fnCompare", fn := fun _ => fun
  | [d] => { results := [.lit (.bool false)], args := [d] }
  | _ => none }
def FnCompareWrongFalsely : Prop := fnCompareRow.holds Try.pinned (OpenSpec.ofChange fnCompareWrong)

/-- 'laws.FnExactCount': WHATEVER THE INPUT: true; the input reads as it did. -/
def fnExactCountSpec : ChangeSpec := { name := "fnExactCount", fn := fun _ => fun
  | [d] => { results := [.lit (.bool true)], args := [d] }
  | _ => none }
def fnExactCountRow : OpenClaim := { program := "ytondofmlippbcaa", sum := "d4ad10913e88feb29aca82a9a26d9b2a053554860b050bc79d968aab6de8cf35", func := "loop.example/g00751/laws.FnExactCount", spec := "fnExactCount", recurses := true, loops := true, apart := false }
def FnExactCountSaid : Prop := fnExactCountRow.holds Try.pinned (OpenSpec.ofChange fnExactCountSpec)

/-- ITS FALSE NEIGHBOUR: 'it returns false'. Refute it at one input. -/
def fnExactCountWrong : ChangeSpec := { name := "fnExactCount", fn := fun _ => fun
  | [d] => { results := [.lit (.bool false)], args := [d] }
  | _ => none }
def FnExactCountWrongFalsely : Prop := fnExactCountRow.holds Try.pinned (OpenSpec.ofChange fnExactCountWrong)

/- THE SECOND FORM. 'bulk': how many values and letters a reading holds, each counted each time it is reached (what is shared counts as often as it is met; a slice's spare places count too). A statement '..UptoSaid' is the law's where the arguments, and the package variables that the reading takes, are together of bulk at most 1048576: NARROWER than '..Said'. Prove '..Said' where nothing that the law and all that it calls make is longer than what came in: it says more and counts as full. Else prove '..UptoSaid'. A law counts once. -/
mutual
def uptoBulk {H : Type} : DataW H → Nat
  | .lit (.string bytes) => bytes.length + 1
  | .lit _ => 1
  | .nil => 1
  | .ptr d => uptoBulk d + 1
  | .slice elems spare => uptoBulkAll elems + uptoBulkAll spare + 1
  | .agg parts => uptoBulkAll parts + 1
  | .iface _ d => uptoBulk d + 1
  | .map entries => uptoBulkEntries entries + 1
  | .held _ => 1
def uptoBulkAll {H : Type} : List (DataW H) → Nat
  | [] => 0
  | d :: r => uptoBulk d + uptoBulkAll r
def uptoBulkEntries {H : Type} : List (Lit × DataW H) → Nat
  | [] => 0
  | x :: r => uptoBulkEntry x + uptoBulkEntries r
def uptoBulkEntry {H : Type} : Lit × DataW H → Nat
  | (.string bytes, d) => bytes.length + uptoBulk d + 1
  | (_, d) => uptoBulk d + 1
 end
def uptoSmall : (H : Type) → List (DataW H) → Bool := fun _ ds => decide (uptoBulkAll ds ≤ 1048576)
def OpenSpec.upto (s : _root_.Go.ChangeSpec) : _root_.Go.OpenSpec := { _root_.Go.OpenSpec.ofChange s with cond := some uptoSmall }

/-- 'laws.FnExactHolds', WHERE WHAT IT READS IS OF BULK AT MOST 1048576: true; the input reads as it did. -/
def fnExactHoldsUptoRow : OpenClaim := { program := "ytondofmlippbcaa", sum := "d4ad10913e88feb29aca82a9a26d9b2a053554860b050bc79d968aab6de8cf35", func := "loop.example/g00751/laws.FnExactHolds", spec := "fnExactHolds", inPlace := ["internal/bytealg.IndexByteString", "internal/bytealg.IndexString"], unfollowed := true, recurses := true, named := ["internal/bytealg.MaxLen"], apart := false, narrowed := true }
def FnExactHoldsUptoSaid : Prop := fnExactHoldsUptoRow.holds Try.pinned (OpenSpec.upto fnExactHoldsSpec)

/-- 'laws.FnCompare', WHERE WHAT IT READS IS OF BULK AT MOST 1048576: true; the input reads as it did. -/
def fnCompareUptoRow : OpenClaim := { program := "ytondofmlippbcaa", sum := "d4ad10913e88feb29aca82a9a26d9b2a053554860b050bc79d968aab6de8cf35", func := "loop.example/g00751/laws.FnCompare", spec := "fnCompare", inPlace := ["internal/bytealg.IndexByteString", "internal/bytealg.IndexString"], unfollowed := true, recurses := true, named := ["internal/bytealg.MaxLen"], apart := false, narrowed := true }
def FnCompareUptoSaid : Prop := fnCompareUptoRow.holds Try.pinned (OpenSpec.upto fnCompareSpec)

/-- 'laws.FnExactCount', WHERE WHAT IT READS IS OF BULK AT MOST 1048576: true; the input reads as it did. -/
def fnExactCountUptoRow : OpenClaim := { program := "ytondofmlippbcaa", sum := "d4ad10913e88feb29aca82a9a26d9b2a053554860b050bc79d968aab6de8cf35", func := "loop.example/g00751/laws.FnExactCount", spec := "fnExactCount", recurses := true, loops := true, apart := false, narrowed := true }
def FnExactCountUptoSaid : Prop := fnExactCountUptoRow.holds Try.pinned (OpenSpec.upto fnExactCountSpec)

end Rows
end Go.Proofs.Ytondofmlippbcaa
