/-
  NARROWER THAN 'FOR EVERY INPUT', by the rows' own cells (each row's printed sentence says how): LimitsAfter: loops · LimitsLess: loops.
  DERIVED. THE GIVEN ROWS OF THIS SEAT. 4 by the template 'for every input the law returns true; each argument reads behind the call as it read before'; 0 by the template 'total and deterministic' (their statements: YtaigldolomfcnaaTotals.lean).
  GIVEN WITH THE SEED: the statements are not yours to turn. If you find one false, say at which input.
  Laid BY PROGRAM, IN A SANDBOX (cutbox-rows.mjs): the forced cells as the released guide's own fill.sh prints them over the translation 552718fd1568d62f… (all of the seat's roots in one cut). By AI agents, Wed Nov 11 2026. No macro, syntax, notation, axiom, sorry.
-/
import Derived.Test.YtaigldolomfcnaaChecked
import GoSem.Claim
import GoSem.ClaimJoined
import GoSem.ClaimMapViews
import Derived.JoinedTies
import Derived.KernelRfl
namespace Go.Proofs.Ytaigldolomfcnaa
/- THE CELL 'sum', in the pinned program and in every row, IS THE sha256 OF THE DUMP (.gsa) THAT YtaigldolomfcnaaProg.lean LOADS. Nothing in Lean hashes anything: it is a label: what it is worth is what the hold of that sum in a sandbox is worth. -/
noncomputable def Try.pinned : Pinned := { name := "ytaigldolomfcnaa", sum := "552718fd1568d62f78bc8805f63afd3eba8b155eb91b5f201bd7fcfe04d9e0ac", checked := Try.checked }
namespace Rows
def none {H : Type} : Left H := { results := [], args := [] }

/-- 'bowerlaw12.SquareBehind': WHATEVER THE INPUT: true; the input reads as it did. -/
def squareBehindSpec : ChangeSpec := { name := "squareBehind", fn := fun _ => fun
  | [d1, d2, d3] => { results := [.lit (.bool true)], args := [d1, d2, d3] }
  | _ => none }
def squareBehindRow : OpenClaim := { program := "ytaigldolomfcnaa", sum := "552718fd1568d62f78bc8805f63afd3eba8b155eb91b5f201bd7fcfe04d9e0ac", func := "bower/bowerlaw12.SquareBehind", spec := "squareBehind", unfollowed := true, recurses := true, apart := false }
def SquareBehindSaid : Prop := squareBehindRow.holds Try.pinned (OpenSpec.ofChange squareBehindSpec)

/-- ITS FALSE NEIGHBOUR: 'it returns false'. Refute it at one input. -/
def squareBehindWrong : ChangeSpec := { name := "squareBehind", fn := fun _ => fun
  | [d1, d2, d3] => { results := [.lit (.bool false)], args := [d1, d2, d3] }
  | _ => none }
def SquareBehindWrongFalsely : Prop := squareBehindRow.holds Try.pinned (OpenSpec.ofChange squareBehindWrong)

/-- 'bowerlaw12.SquareTurned': WHATEVER THE INPUT: true; the input reads as it did. -/
def squareTurnedSpec : ChangeSpec := { name := "squareTurned", fn := fun _ => fun
  | [d1, d2, d3] => { results := [.lit (.bool true)], args := [d1, d2, d3] }
  | _ => none }
def squareTurnedRow : OpenClaim := { program := "ytaigldolomfcnaa", sum := "552718fd1568d62f78bc8805f63afd3eba8b155eb91b5f201bd7fcfe04d9e0ac", func := "bower/bowerlaw12.SquareTurned", spec := "squareTurned", unfollowed := true, recurses := true, apart := false }
def SquareTurnedSaid : Prop := squareTurnedRow.holds Try.pinned (OpenSpec.ofChange squareTurnedSpec)

/-- ITS FALSE NEIGHBOUR: 'it returns false'. Refute it at one input. -/
def squareTurnedWrong : ChangeSpec := { name := "squareTurned", fn := fun _ => fun
  | [d1, d2, d3] => { results := [.lit (.bool false)], args := [d1, d2, d3] }
  | _ => none }
def SquareTurnedWrongFalsely : Prop := squareTurnedRow.holds Try.pinned (OpenSpec.ofChange squareTurnedWrong)

/-- 'bowerlaw16.LimitsAfter': WHATEVER THE INPUT: true; the input reads as it did. -/
def limitsAfterSpec : ChangeSpec := { name := "limitsAfter", fn := fun _ => fun
  | [d1, d2] => { results := [.lit (.bool true)], args := [d1, d2] }
  | _ => none }
def limitsAfterRow : OpenClaim := { program := "ytaigldolomfcnaa", sum := "552718fd1568d62f78bc8805f63afd3eba8b155eb91b5f201bd7fcfe04d9e0ac", func := "bower/bowerlaw16.LimitsAfter", spec := "limitsAfter", inPlace := ["internal/abi.NoEscape", "internal/bytealg.abigen_runtime_cmpstring"], unfollowed := true, recurses := true, loops := true, apart := false }
def LimitsAfterSaid : Prop := limitsAfterRow.holds Try.pinned (OpenSpec.ofChange limitsAfterSpec)

/-- ITS FALSE NEIGHBOUR: 'it returns false'. Refute it at one input. -/
def limitsAfterWrong : ChangeSpec := { name := "limitsAfter", fn := fun _ => fun
  | [d1, d2] => { results := [.lit (.bool false)], args := [d1, d2] }
  | _ => none }
def LimitsAfterWrongFalsely : Prop := limitsAfterRow.holds Try.pinned (OpenSpec.ofChange limitsAfterWrong)

/-- 'bowerlaw16.LimitsLess': WHATEVER THE INPUT: true; the input reads as it did. -/
def limitsLessSpec : ChangeSpec := { name := "limitsLess", fn := fun _ => fun
  | [d1, d2] => { results := [.lit (.bool true)], args := [d1, d2] }
  | _ => none }
def limitsLessRow : OpenClaim := { program := "ytaigldolomfcnaa", sum := "552718fd1568d62f78bc8805f63afd3eba8b155eb91b5f201bd7fcfe04d9e0ac", func := "bower/bowerlaw16.LimitsLess", spec := "limitsLess", inPlace := ["internal/abi.NoEscape", "internal/bytealg.abigen_runtime_cmpstring"], unfollowed := true, recurses := true, loops := true, apart := false }
def LimitsLessSaid : Prop := limitsLessRow.holds Try.pinned (OpenSpec.ofChange limitsLessSpec)

/-- ITS FALSE NEIGHBOUR: 'it returns false'. Refute it at one input. -/
def limitsLessWrong : ChangeSpec := { name := "limitsLess", fn := fun _ => fun
  | [d1, d2] => { results := [.lit (.bool false)], args := [d1, d2] }
  | _ => none }
def LimitsLessWrongFalsely : Prop := limitsLessRow.holds Try.pinned (OpenSpec.ofChange limitsLessWrong)

/- THE SECOND FORM. 'bulk': how many values and letters a reading holds, each counted each time it is reached (what is shared counts as often as it is met; a slice's spare places count too). A statement '..UptoSaid' is the law's where the arguments, and the package variables that the reading takes, are together of bulk at most 1048576: NARROWER than '..Said'. Prove '..Said' where nothing that the law and all that it calls make is longer than what came in: it says more and counts as full. Else prove '..UptoSaid'. A law counts once. -/
mutual
def uptoBulk {H : Type} : DataW H → Nat
  | .lit (.string bytes) => bytes.length + 1
  | .lit _ => 1
  | .nil => 1
  | .ptr d => uptoBulk d + 1
  | .slice elems spare => uptoBulkAll elems + uptoBulkAll spare + 1
  | .agg parts => uptoBulkAll parts + 1
  | .iface _ d => uptoBulk d + 1
  | .map entries => uptoBulkEntries entries + 1
  | .held _ => 1
def uptoBulkAll {H : Type} : List (DataW H) → Nat
  | [] => 0
  | d :: r => uptoBulk d + uptoBulkAll r
def uptoBulkEntries {H : Type} : List (Lit × DataW H) → Nat
  | [] => 0
  | x :: r => uptoBulkEntry x + uptoBulkEntries r
def uptoBulkEntry {H : Type} : Lit × DataW H → Nat
  | (.string bytes, d) => bytes.length + uptoBulk d + 1
  | (_, d) => uptoBulk d + 1
 end
def uptoSmall : (H : Type) → List (DataW H) → Bool := fun _ ds => decide (uptoBulkAll ds ≤ 1048576)
def OpenSpec.upto (s : _root_.Go.ChangeSpec) : _root_.Go.OpenSpec := { _root_.Go.OpenSpec.ofChange s with cond := some uptoSmall }

/-- 'bowerlaw12.SquareBehind', WHERE WHAT IT READS IS OF BULK AT MOST 1048576: true; the input reads as it did. -/
def squareBehindUptoRow : OpenClaim := { program := "ytaigldolomfcnaa", sum := "552718fd1568d62f78bc8805f63afd3eba8b155eb91b5f201bd7fcfe04d9e0ac", func := "bower/bowerlaw12.SquareBehind", spec := "squareBehind", unfollowed := true, recurses := true, apart := false, narrowed := true }
def SquareBehindUptoSaid : Prop := squareBehindUptoRow.holds Try.pinned (OpenSpec.upto squareBehindSpec)

/-- 'bowerlaw12.SquareTurned', WHERE WHAT IT READS IS OF BULK AT MOST 1048576: true; the input reads as it did. -/
def squareTurnedUptoRow : OpenClaim := { program := "ytaigldolomfcnaa", sum := "552718fd1568d62f78bc8805f63afd3eba8b155eb91b5f201bd7fcfe04d9e0ac", func := "bower/bowerlaw12.SquareTurned", spec := "squareTurned", unfollowed := true, recurses := true, apart := false, narrowed := true }
def SquareTurnedUptoSaid : Prop := squareTurnedUptoRow.holds Try.pinned (OpenSpec.upto squareTurnedSpec)

/-- 'bowerlaw16.LimitsAfter', WHERE WHAT IT READS IS OF BULK AT MOST 1048576: true; the input reads as it did. -/
def limitsAfterUptoRow : OpenClaim := { program := "ytaigldolomfcnaa", sum := "552718fd1568d62f78bc8805f63afd3eba8b155eb91b5f201bd7fcfe04d9e0ac", func := "bower/bowerlaw16.LimitsAfter", spec := "limitsAfter", inPlace := ["internal/abi.NoEscape", "internal/bytealg.abigen_runtime_cmpstring"], unfollowed := true, recurses := true, loops := true, apart := false, narrowed := true }
def LimitsAfterUptoSaid : Prop := limitsAfterUptoRow.holds Try.pinned (OpenSpec.upto limitsAfterSpec)

/-- 'bowerlaw16.LimitsLess', WHERE WHAT IT READS IS OF BULK AT MOST 1048576: true; the input reads as it did. -/
def limitsLessUptoRow : OpenClaim := { program := "ytaigldolomfcnaa", sum := "552718fd1568d62f78bc8805f63afd3eba8b155eb91b5f201bd7fcfe04d9e0ac", func := "bower/bowerlaw16.LimitsLess", spec := "limitsLess", inPlace := ["internal/abi.NoEscape", "internal/bytealg.abigen_runtime_cmpstring"], unfollowed := true, recurses := true, loops := true, apart := false, narrowed := true }
def LimitsLessUptoSaid : Prop := limitsLessUptoRow.holds Try.pinned (OpenSpec.upto limitsLessSpec)

end Rows
end Go.Proofs.Ytaigldolomfcnaa
