/-
  NARROWER THAN 'FOR EVERY INPUT', by the rows' own cells (each row's printed sentence says how): TreeopsSame: loops · ListsCloses: loops.
  DERIVED. THE GIVEN ROWS OF THIS SEAT. 2 by the template 'for every input the law returns true; each argument reads behind the call as it read before'; 0 by the template 'total and deterministic' (their statements: YthaigpiepfdaeaaTotals.lean).
  GIVEN WITH THE SEED: the statements are not yours to turn. If you find one false, say at which input.
  Laid BY PROGRAM, IN A SANDBOX (cutbox-rows.mjs): the forced cells as the released guide's own fill.sh prints them over the translation 1673d0f25855cc6a… (all of the seat's roots in one cut). By AI agents, Wed Nov 11 2026. No macro, syntax, notation, axiom, sorry.
-/
import Derived.Test.YthaigpiepfdaeaaChecked
import GoSem.Claim
import GoSem.ClaimJoined
import GoSem.ClaimMapViews
import Derived.JoinedTies
import Derived.KernelRfl
namespace Go.Proofs.Ythaigpiepfdaeaa
/- THE CELL 'sum', in the pinned program and in every row, IS THE sha256 OF THE DUMP (.gsa) THAT YthaigpiepfdaeaaProg.lean LOADS. Nothing in Lean hashes anything: it is a label: what it is worth is what the hold of that sum in a sandbox is worth. -/
noncomputable def Try.pinned : Pinned := { name := "ythaigpiepfdaeaa", sum := "1673d0f25855cc6a78f635e22f13573684b14e98c1db8162f94ac9511a07a839", checked := Try.checked }
namespace Rows
def none {H : Type} : Left H := { results := [], args := [] }

/-- 'bowerlaw08.TreeopsSame': WHATEVER THE INPUT: true; the input reads as it did. -/
def treeopsSameSpec : ChangeSpec := { name := "treeopsSame", fn := fun _ => fun
  | [d1, d2, d3] => { results := [.lit (.bool true)], args := [d1, d2, d3] }
  | _ => none }
def treeopsSameRow : OpenClaim := { program := "ythaigpiepfdaeaa", sum := "1673d0f25855cc6a78f635e22f13573684b14e98c1db8162f94ac9511a07a839", func := "bower/bowerlaw08.TreeopsSame", spec := "treeopsSame", inPlace := ["internal/abi.NoEscape", "internal/bytealg.abigen_runtime_cmpstring"], unfollowed := true, recurses := true, loops := true, apart := false }
def TreeopsSameSaid : Prop := treeopsSameRow.holds Try.pinned (OpenSpec.ofChange treeopsSameSpec)

/-- ITS FALSE NEIGHBOUR: 'it returns false'. Refute it at one input. -/
def treeopsSameWrong : ChangeSpec := { name := "treeopsSame", fn := fun _ => fun
  | [d1, d2, d3] => { results := [.lit (.bool false)], args := [d1, d2, d3] }
  | _ => none }
def TreeopsSameWrongFalsely : Prop := treeopsSameRow.holds Try.pinned (OpenSpec.ofChange treeopsSameWrong)

/-- 'bowerlaw13.ListsCloses': WHATEVER THE INPUT: true; the input reads as it did. -/
def listsClosesSpec : ChangeSpec := { name := "listsCloses", fn := fun _ => fun
  | [d1, d2, d3, d4] => { results := [.lit (.bool true)], args := [d1, d2, d3, d4] }
  | _ => none }
def listsClosesRow : OpenClaim := { program := "ythaigpiepfdaeaa", sum := "1673d0f25855cc6a78f635e22f13573684b14e98c1db8162f94ac9511a07a839", func := "bower/bowerlaw13.ListsCloses", spec := "listsCloses", unfollowed := true, recurses := true, loops := true, apart := false }
def ListsClosesSaid : Prop := listsClosesRow.holds Try.pinned (OpenSpec.ofChange listsClosesSpec)

/-- ITS FALSE NEIGHBOUR: 'it returns false'. Refute it at one input. -/
def listsClosesWrong : ChangeSpec := { name := "listsCloses", fn := fun _ => fun
  | [d1, d2, d3, d4] => { results := [.lit (.bool false)], args := [d1, d2, d3, d4] }
  | _ => none }
def ListsClosesWrongFalsely : Prop := listsClosesRow.holds Try.pinned (OpenSpec.ofChange listsClosesWrong)

/- THE SECOND FORM. 'bulk': how many values and letters a reading holds, each counted each time it is reached (what is shared counts as often as it is met; a slice's spare places count too). A statement '..UptoSaid' is the law's where the arguments, and the package variables that the reading takes, are together of bulk at most 1048576: NARROWER than '..Said'. Prove '..Said' where nothing that the law and all that it calls make is longer than what came in: it says more and counts as full. Else prove '..UptoSaid'. A law counts once. -/
mutual
def uptoBulk {H : Type} : DataW H → Nat
  | .lit (.string bytes) => bytes.length + 1
  | .lit _ => 1
  | .nil => 1
  | .ptr d => uptoBulk d + 1
  | .slice elems spare => uptoBulkAll elems + uptoBulkAll spare + 1
  | .agg parts => uptoBulkAll parts + 1
  | .iface _ d => uptoBulk d + 1
  | .map entries => uptoBulkEntries entries + 1
  | .held _ => 1
def uptoBulkAll {H : Type} : List (DataW H) → Nat
  | [] => 0
  | d :: r => uptoBulk d + uptoBulkAll r
def uptoBulkEntries {H : Type} : List (Lit × DataW H) → Nat
  | [] => 0
  | x :: r => uptoBulkEntry x + uptoBulkEntries r
def uptoBulkEntry {H : Type} : Lit × DataW H → Nat
  | (.string bytes, d) => bytes.length + uptoBulk d + 1
  | (_, d) => uptoBulk d + 1
 end
def uptoSmall : (H : Type) → List (DataW H) → Bool := fun _ ds => decide (uptoBulkAll ds ≤ 1048576)
def OpenSpec.upto (s : _root_.Go.ChangeSpec) : _root_.Go.OpenSpec := { _root_.Go.OpenSpec.ofChange s with cond := some uptoSmall }

/-- 'bowerlaw08.TreeopsSame', WHERE WHAT IT READS IS OF BULK AT MOST 1048576: true; the input reads as it did. -/
def treeopsSameUptoRow : OpenClaim := { program := "ythaigpiepfdaeaa", sum := "1673d0f25855cc6a78f635e22f13573684b14e98c1db8162f94ac9511a07a839", func := "bower/bowerlaw08.TreeopsSame", spec := "treeopsSame", inPlace := ["internal/abi.NoEscape", "internal/bytealg.abigen_runtime_cmpstring"], unfollowed := true, recurses := true, loops := true, apart := false, narrowed := true }
def TreeopsSameUptoSaid : Prop := treeopsSameUptoRow.holds Try.pinned (OpenSpec.upto treeopsSameSpec)

/-- 'bowerlaw13.ListsCloses', WHERE WHAT IT READS IS OF BULK AT MOST 1048576: true; the input reads as it did. -/
def listsClosesUptoRow : OpenClaim := { program := "ythaigpiepfdaeaa", sum := "1673d0f25855cc6a78f635e22f13573684b14e98c1db8162f94ac9511a07a839", func := "bower/bowerlaw13.ListsCloses", spec := "listsCloses", unfollowed := true, recurses := true, loops := true, apart := false, narrowed := true }
def ListsClosesUptoSaid : Prop := listsClosesUptoRow.holds Try.pinned (OpenSpec.upto listsClosesSpec)

end Rows
end Go.Proofs.Ythaigpiepfdaeaa
