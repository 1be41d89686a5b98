/-
  No cell of these rows narrows 'for every input' (looked for: loops, veiled, ifaces, maps, wideKeys, modest, calm, conditions, laid).
  DERIVED. THE GIVEN ROWS OF THIS SEAT. 8 by the template 'for every input the law returns true; each argument reads behind the call as it read before'; 0 by the template 'total and deterministic' (their statements: YtcglpgfcjlafhaaTotals.lean).
  GIVEN WITH THE SEED: the statements are not yours to turn. If you find one false, say at which input.
  Laid BY PROGRAM, IN A SANDBOX (cutbox-rows.mjs): the forced cells as the released guide's own fill.sh prints them over the translation 290ecdc44b21c769… (all of the seat's roots in one cut). By AI agents, Wed Nov 11 2026. No macro, syntax, notation, axiom, sorry.
-/
import Derived.Test.YtcglpgfcjlafhaaChecked
import GoSem.Claim
import GoSem.ClaimJoined
import GoSem.ClaimMapViews
import Derived.JoinedTies
import Derived.KernelRfl
namespace Go.Proofs.Ytcglpgfcjlafhaa
/- THE CELL 'sum', in the pinned program and in every row, IS THE sha256 OF THE DUMP (.gsa) THAT YtcglpgfcjlafhaaProg.lean LOADS. Nothing in Lean hashes anything: it is a label: what it is worth is what the hold of that sum in a sandbox is worth. -/
noncomputable def Try.pinned : Pinned := { name := "ytcglpgfcjlafhaa", sum := "290ecdc44b21c7691f45375e43e1984b17317cbc842ec0a5533bd54ace763026", checked := Try.checked }
namespace Rows
def none {H : Type} : Left H := { results := [], args := [] }

/-- 'bowerlaw12.SquareBehind': WHATEVER THE INPUT: true; the input reads as it did. -/
def squareBehindSpec : ChangeSpec := { name := "squareBehind", fn := fun _ => fun
  | [d1, d2, d3] => { results := [.lit (.bool true)], args := [d1, d2, d3] }
  | _ => none }
def squareBehindRow : OpenClaim := { program := "ytcglpgfcjlafhaa", sum := "290ecdc44b21c7691f45375e43e1984b17317cbc842ec0a5533bd54ace763026", func := "bower/bowerlaw12.SquareBehind", spec := "squareBehind", unfollowed := true, recurses := true, apart := false }
def SquareBehindSaid : Prop := squareBehindRow.holds Try.pinned (OpenSpec.ofChange squareBehindSpec)

/-- ITS FALSE NEIGHBOUR: 'it returns false'. Refute it at one input. -/
def squareBehindWrong : ChangeSpec := { name := "squareBehind", fn := fun _ => fun
  | [d1, d2, d3] => { results := [.lit (.bool false)], args := [d1, d2, d3] }
  | _ => none }
def SquareBehindWrongFalsely : Prop := squareBehindRow.holds Try.pinned (OpenSpec.ofChange squareBehindWrong)

/-- 'bowerlaw12.SquareBoth': WHATEVER THE INPUT: true; the input reads as it did. -/
def squareBothSpec : ChangeSpec := { name := "squareBoth", fn := fun _ => fun
  | [d1, d2, d3] => { results := [.lit (.bool true)], args := [d1, d2, d3] }
  | _ => none }
def squareBothRow : OpenClaim := { program := "ytcglpgfcjlafhaa", sum := "290ecdc44b21c7691f45375e43e1984b17317cbc842ec0a5533bd54ace763026", func := "bower/bowerlaw12.SquareBoth", spec := "squareBoth", unfollowed := true, recurses := true, apart := false }
def SquareBothSaid : Prop := squareBothRow.holds Try.pinned (OpenSpec.ofChange squareBothSpec)

/-- ITS FALSE NEIGHBOUR: 'it returns false'. Refute it at one input. -/
def squareBothWrong : ChangeSpec := { name := "squareBoth", fn := fun _ => fun
  | [d1, d2, d3] => { results := [.lit (.bool false)], args := [d1, d2, d3] }
  | _ => none }
def SquareBothWrongFalsely : Prop := squareBothRow.holds Try.pinned (OpenSpec.ofChange squareBothWrong)

/-- 'bowerlaw12.SquareTurned': WHATEVER THE INPUT: true; the input reads as it did. -/
def squareTurnedSpec : ChangeSpec := { name := "squareTurned", fn := fun _ => fun
  | [d1, d2, d3] => { results := [.lit (.bool true)], args := [d1, d2, d3] }
  | _ => none }
def squareTurnedRow : OpenClaim := { program := "ytcglpgfcjlafhaa", sum := "290ecdc44b21c7691f45375e43e1984b17317cbc842ec0a5533bd54ace763026", func := "bower/bowerlaw12.SquareTurned", spec := "squareTurned", unfollowed := true, recurses := true, apart := false }
def SquareTurnedSaid : Prop := squareTurnedRow.holds Try.pinned (OpenSpec.ofChange squareTurnedSpec)

/-- ITS FALSE NEIGHBOUR: 'it returns false'. Refute it at one input. -/
def squareTurnedWrong : ChangeSpec := { name := "squareTurned", fn := fun _ => fun
  | [d1, d2, d3] => { results := [.lit (.bool false)], args := [d1, d2, d3] }
  | _ => none }
def SquareTurnedWrongFalsely : Prop := squareTurnedRow.holds Try.pinned (OpenSpec.ofChange squareTurnedWrong)

/-- 'bowerlaw13.ListsJoined': WHATEVER THE INPUT: true; the input reads as it did. -/
def listsJoinedSpec : ChangeSpec := { name := "listsJoined", fn := fun _ => fun
  | [d1, d2, d3, d4] => { results := [.lit (.bool true)], args := [d1, d2, d3, d4] }
  | _ => none }
def listsJoinedRow : OpenClaim := { program := "ytcglpgfcjlafhaa", sum := "290ecdc44b21c7691f45375e43e1984b17317cbc842ec0a5533bd54ace763026", func := "bower/bowerlaw13.ListsJoined", spec := "listsJoined", unfollowed := true, recurses := true, apart := false }
def ListsJoinedSaid : Prop := listsJoinedRow.holds Try.pinned (OpenSpec.ofChange listsJoinedSpec)

/-- ITS FALSE NEIGHBOUR: 'it returns false'. Refute it at one input. -/
def listsJoinedWrong : ChangeSpec := { name := "listsJoined", fn := fun _ => fun
  | [d1, d2, d3, d4] => { results := [.lit (.bool false)], args := [d1, d2, d3, d4] }
  | _ => none }
def ListsJoinedWrongFalsely : Prop := listsJoinedRow.holds Try.pinned (OpenSpec.ofChange listsJoinedWrong)

/-- 'bowerlaw13.ListsBoth': WHATEVER THE INPUT: true; the input reads as it did. -/
def listsBothSpec : ChangeSpec := { name := "listsBoth", fn := fun _ => fun
  | [d1, d2, d3] => { results := [.lit (.bool true)], args := [d1, d2, d3] }
  | _ => none }
def listsBothRow : OpenClaim := { program := "ytcglpgfcjlafhaa", sum := "290ecdc44b21c7691f45375e43e1984b17317cbc842ec0a5533bd54ace763026", func := "bower/bowerlaw13.ListsBoth", spec := "listsBoth", unfollowed := true, recurses := true, apart := false }
def ListsBothSaid : Prop := listsBothRow.holds Try.pinned (OpenSpec.ofChange listsBothSpec)

/-- ITS FALSE NEIGHBOUR: 'it returns false'. Refute it at one input. -/
def listsBothWrong : ChangeSpec := { name := "listsBoth", fn := fun _ => fun
  | [d1, d2, d3] => { results := [.lit (.bool false)], args := [d1, d2, d3] }
  | _ => none }
def ListsBothWrongFalsely : Prop := listsBothRow.holds Try.pinned (OpenSpec.ofChange listsBothWrong)

/-- 'bowerlaw13.ListsThrough': WHATEVER THE INPUT: true; the input reads as it did. -/
def listsThroughSpec : ChangeSpec := { name := "listsThrough", fn := fun _ => fun
  | [d1, d2, d3] => { results := [.lit (.bool true)], args := [d1, d2, d3] }
  | _ => none }
def listsThroughRow : OpenClaim := { program := "ytcglpgfcjlafhaa", sum := "290ecdc44b21c7691f45375e43e1984b17317cbc842ec0a5533bd54ace763026", func := "bower/bowerlaw13.ListsThrough", spec := "listsThrough", unfollowed := true, recurses := true, apart := false }
def ListsThroughSaid : Prop := listsThroughRow.holds Try.pinned (OpenSpec.ofChange listsThroughSpec)

/-- ITS FALSE NEIGHBOUR: 'it returns false'. Refute it at one input. -/
def listsThroughWrong : ChangeSpec := { name := "listsThrough", fn := fun _ => fun
  | [d1, d2, d3] => { results := [.lit (.bool false)], args := [d1, d2, d3] }
  | _ => none }
def ListsThroughWrongFalsely : Prop := listsThroughRow.holds Try.pinned (OpenSpec.ofChange listsThroughWrong)

/-- 'bowerlaw13.ListsSame': WHATEVER THE INPUT: true; the input reads as it did. -/
def listsSameSpec : ChangeSpec := { name := "listsSame", fn := fun _ => fun
  | [d1, d2] => { results := [.lit (.bool true)], args := [d1, d2] }
  | _ => none }
def listsSameRow : OpenClaim := { program := "ytcglpgfcjlafhaa", sum := "290ecdc44b21c7691f45375e43e1984b17317cbc842ec0a5533bd54ace763026", func := "bower/bowerlaw13.ListsSame", spec := "listsSame", unfollowed := true, recurses := true, apart := false }
def ListsSameSaid : Prop := listsSameRow.holds Try.pinned (OpenSpec.ofChange listsSameSpec)

/-- ITS FALSE NEIGHBOUR: 'it returns false'. Refute it at one input. -/
def listsSameWrong : ChangeSpec := { name := "listsSame", fn := fun _ => fun
  | [d1, d2] => { results := [.lit (.bool false)], args := [d1, d2] }
  | _ => none }
def ListsSameWrongFalsely : Prop := listsSameRow.holds Try.pinned (OpenSpec.ofChange listsSameWrong)

/-- 'bowerlaw23.UndoNone': WHATEVER THE INPUT: true; the input reads as it did. -/
def undoNoneSpec : ChangeSpec := { name := "undoNone", fn := fun _ => fun
  | [d] => { results := [.lit (.bool true)], args := [d] }
  | _ => none }
def undoNoneRow : OpenClaim := { program := "ytcglpgfcjlafhaa", sum := "290ecdc44b21c7691f45375e43e1984b17317cbc842ec0a5533bd54ace763026", func := "bower/bowerlaw23.UndoNone", spec := "undoNone", unfollowed := true, recurses := true, apart := false }
def UndoNoneSaid : Prop := undoNoneRow.holds Try.pinned (OpenSpec.ofChange undoNoneSpec)

/-- ITS FALSE NEIGHBOUR: 'it returns false'. Refute it at one input. -/
def undoNoneWrong : ChangeSpec := { name := "undoNone", fn := fun _ => fun
  | [d] => { results := [.lit (.bool false)], args := [d] }
  | _ => none }
def UndoNoneWrongFalsely : Prop := undoNoneRow.holds Try.pinned (OpenSpec.ofChange undoNoneWrong)

/- THE SECOND FORM. 'bulk': how many values and letters a reading holds, each counted each time it is reached (what is shared counts as often as it is met; a slice's spare places count too). A statement '..UptoSaid' is the law's where the arguments, and the package variables that the reading takes, are together of bulk at most 1048576: NARROWER than '..Said'. Prove '..Said' where nothing that the law and all that it calls make is longer than what came in: it says more and counts as full. Else prove '..UptoSaid'. A law counts once. -/
mutual
def uptoBulk {H : Type} : DataW H → Nat
  | .lit (.string bytes) => bytes.length + 1
  | .lit _ => 1
  | .nil => 1
  | .ptr d => uptoBulk d + 1
  | .slice elems spare => uptoBulkAll elems + uptoBulkAll spare + 1
  | .agg parts => uptoBulkAll parts + 1
  | .iface _ d => uptoBulk d + 1
  | .map entries => uptoBulkEntries entries + 1
  | .held _ => 1
def uptoBulkAll {H : Type} : List (DataW H) → Nat
  | [] => 0
  | d :: r => uptoBulk d + uptoBulkAll r
def uptoBulkEntries {H : Type} : List (Lit × DataW H) → Nat
  | [] => 0
  | x :: r => uptoBulkEntry x + uptoBulkEntries r
def uptoBulkEntry {H : Type} : Lit × DataW H → Nat
  | (.string bytes, d) => bytes.length + uptoBulk d + 1
  | (_, d) => uptoBulk d + 1
 end
def uptoSmall : (H : Type) → List (DataW H) → Bool := fun _ ds => decide (uptoBulkAll ds ≤ 1048576)
def OpenSpec.upto (s : _root_.Go.ChangeSpec) : _root_.Go.OpenSpec := { _root_.Go.OpenSpec.ofChange s with cond := some uptoSmall }

/-- 'bowerlaw12.SquareBehind', WHERE WHAT IT READS IS OF BULK AT MOST 1048576: true; the input reads as it did. -/
def squareBehindUptoRow : OpenClaim := { program := "ytcglpgfcjlafhaa", sum := "290ecdc44b21c7691f45375e43e1984b17317cbc842ec0a5533bd54ace763026", func := "bower/bowerlaw12.SquareBehind", spec := "squareBehind", unfollowed := true, recurses := true, apart := false, narrowed := true }
def SquareBehindUptoSaid : Prop := squareBehindUptoRow.holds Try.pinned (OpenSpec.upto squareBehindSpec)

/-- 'bowerlaw12.SquareBoth', WHERE WHAT IT READS IS OF BULK AT MOST 1048576: true; the input reads as it did. -/
def squareBothUptoRow : OpenClaim := { program := "ytcglpgfcjlafhaa", sum := "290ecdc44b21c7691f45375e43e1984b17317cbc842ec0a5533bd54ace763026", func := "bower/bowerlaw12.SquareBoth", spec := "squareBoth", unfollowed := true, recurses := true, apart := false, narrowed := true }
def SquareBothUptoSaid : Prop := squareBothUptoRow.holds Try.pinned (OpenSpec.upto squareBothSpec)

/-- 'bowerlaw12.SquareTurned', WHERE WHAT IT READS IS OF BULK AT MOST 1048576: true; the input reads as it did. -/
def squareTurnedUptoRow : OpenClaim := { program := "ytcglpgfcjlafhaa", sum := "290ecdc44b21c7691f45375e43e1984b17317cbc842ec0a5533bd54ace763026", func := "bower/bowerlaw12.SquareTurned", spec := "squareTurned", unfollowed := true, recurses := true, apart := false, narrowed := true }
def SquareTurnedUptoSaid : Prop := squareTurnedUptoRow.holds Try.pinned (OpenSpec.upto squareTurnedSpec)

/-- 'bowerlaw13.ListsJoined', WHERE WHAT IT READS IS OF BULK AT MOST 1048576: true; the input reads as it did. -/
def listsJoinedUptoRow : OpenClaim := { program := "ytcglpgfcjlafhaa", sum := "290ecdc44b21c7691f45375e43e1984b17317cbc842ec0a5533bd54ace763026", func := "bower/bowerlaw13.ListsJoined", spec := "listsJoined", unfollowed := true, recurses := true, apart := false, narrowed := true }
def ListsJoinedUptoSaid : Prop := listsJoinedUptoRow.holds Try.pinned (OpenSpec.upto listsJoinedSpec)

/-- 'bowerlaw13.ListsBoth', WHERE WHAT IT READS IS OF BULK AT MOST 1048576: true; the input reads as it did. -/
def listsBothUptoRow : OpenClaim := { program := "ytcglpgfcjlafhaa", sum := "290ecdc44b21c7691f45375e43e1984b17317cbc842ec0a5533bd54ace763026", func := "bower/bowerlaw13.ListsBoth", spec := "listsBoth", unfollowed := true, recurses := true, apart := false, narrowed := true }
def ListsBothUptoSaid : Prop := listsBothUptoRow.holds Try.pinned (OpenSpec.upto listsBothSpec)

/-- 'bowerlaw13.ListsThrough', WHERE WHAT IT READS IS OF BULK AT MOST 1048576: true; the input reads as it did. -/
def listsThroughUptoRow : OpenClaim := { program := "ytcglpgfcjlafhaa", sum := "290ecdc44b21c7691f45375e43e1984b17317cbc842ec0a5533bd54ace763026", func := "bower/bowerlaw13.ListsThrough", spec := "listsThrough", unfollowed := true, recurses := true, apart := false, narrowed := true }
def ListsThroughUptoSaid : Prop := listsThroughUptoRow.holds Try.pinned (OpenSpec.upto listsThroughSpec)

/-- 'bowerlaw13.ListsSame', WHERE WHAT IT READS IS OF BULK AT MOST 1048576: true; the input reads as it did. -/
def listsSameUptoRow : OpenClaim := { program := "ytcglpgfcjlafhaa", sum := "290ecdc44b21c7691f45375e43e1984b17317cbc842ec0a5533bd54ace763026", func := "bower/bowerlaw13.ListsSame", spec := "listsSame", unfollowed := true, recurses := true, apart := false, narrowed := true }
def ListsSameUptoSaid : Prop := listsSameUptoRow.holds Try.pinned (OpenSpec.upto listsSameSpec)

/-- 'bowerlaw23.UndoNone', WHERE WHAT IT READS IS OF BULK AT MOST 1048576: true; the input reads as it did. -/
def undoNoneUptoRow : OpenClaim := { program := "ytcglpgfcjlafhaa", sum := "290ecdc44b21c7691f45375e43e1984b17317cbc842ec0a5533bd54ace763026", func := "bower/bowerlaw23.UndoNone", spec := "undoNone", unfollowed := true, recurses := true, apart := false, narrowed := true }
def UndoNoneUptoSaid : Prop := undoNoneUptoRow.holds Try.pinned (OpenSpec.upto undoNoneSpec)

end Rows
end Go.Proofs.Ytcglpgfcjlafhaa
