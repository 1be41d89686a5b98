/-
  NARROWER THAN 'FOR EVERY INPUT', by the rows' own cells (each row's printed sentence says how): WindowCloses: loops · ClientPlays: loops · ClientDrops: loops · ClientFollows: loops.
  DERIVED. THE GIVEN ROWS OF THIS SEAT. 5 by the template 'for every input the law returns true; each argument reads behind the call as it read before'; 0 by the template 'total and deterministic' (their statements: YtbffliejmnokpaaGreatTotals.lean).
  GIVEN WITH THE SEED: the statements are not yours to turn. If you find one false, say at which input.
  Laid BY PROGRAM, IN A SANDBOX (cutbox-rows.mjs): the forced cells as the released guide's own fill.sh prints them over the translation bd886298569d30b7… (all of the seat's roots in one cut). By AI agents, Wed Nov 11 2026. No macro, syntax, notation, axiom, sorry.
-/
import Derived.Test.YtbffliejmnokpaaGreatChecked
import GoSem.Claim
import GoSem.ClaimJoined
import GoSem.ClaimMapViews
import Derived.JoinedTies
import Derived.KernelRfl
namespace Go.Proofs.YtbffliejmnokpaaGreat
/- THE CELL 'sum', in the pinned program and in every row, IS THE sha256 OF THE DUMP (.gsa) THAT YtbffliejmnokpaaGreatProg.lean LOADS. Nothing in Lean hashes anything: it is a label: what it is worth is what the hold of that sum in a sandbox is worth. -/
noncomputable def Tryz.pinned : Pinned := { name := "ytbffliejmnokpaagreat", sum := "bd886298569d30b72d9b00da419ad86b5825ec40f4828271a6d82d1a45c524d7", checked := Tryz.checked }
namespace Rows
def none {H : Type} : Left H := { results := [], args := [] }

/-- 'bowerlaw20.WindowCloses': WHATEVER THE INPUT: true; the input reads as it did. -/
def windowClosesSpec : ChangeSpec := { name := "windowCloses", fn := fun _ => fun
  | [d1, d2, d3, d4] => { results := [.lit (.bool true)], args := [d1, d2, d3, d4] }
  | _ => none }
def windowClosesRow : OpenClaim := { program := "ytbffliejmnokpaagreat", sum := "bd886298569d30b72d9b00da419ad86b5825ec40f4828271a6d82d1a45c524d7", func := "bower/bowerlaw20.WindowCloses", spec := "windowCloses", inPlace := ["internal/abi.NoEscape", "internal/bytealg.abigen_runtime_cmpstring"], unfollowed := true, recurses := true, loops := true, apart := false }
def WindowClosesSaid : Prop := windowClosesRow.holds Tryz.pinned (OpenSpec.ofChange windowClosesSpec)

/-- ITS FALSE NEIGHBOUR: 'it returns false'. Refute it at one input. -/
def windowClosesWrong : ChangeSpec := { name := "windowCloses", fn := fun _ => fun
  | [d1, d2, d3, d4] => { results := [.lit (.bool false)], args := [d1, d2, d3, d4] }
  | _ => none }
def WindowClosesWrongFalsely : Prop := windowClosesRow.holds Tryz.pinned (OpenSpec.ofChange windowClosesWrong)

/-- 'bowerlaw22.ClientPlays': WHATEVER THE INPUT: true; the input reads as it did. -/
def clientPlaysSpec : ChangeSpec := { name := "clientPlays", fn := fun _ => fun
  | [d1, d2, d3, d4] => { results := [.lit (.bool true)], args := [d1, d2, d3, d4] }
  | _ => none }
def clientPlaysRow : OpenClaim := { program := "ytbffliejmnokpaagreat", sum := "bd886298569d30b72d9b00da419ad86b5825ec40f4828271a6d82d1a45c524d7", func := "bower/bowerlaw22.ClientPlays", spec := "clientPlays", inPlace := ["internal/abi.NoEscape", "internal/bytealg.abigen_runtime_cmpstring"], unfollowed := true, recurses := true, loops := true, apart := false }
def ClientPlaysSaid : Prop := clientPlaysRow.holds Tryz.pinned (OpenSpec.ofChange clientPlaysSpec)

/-- ITS FALSE NEIGHBOUR: 'it returns false'. Refute it at one input. -/
def clientPlaysWrong : ChangeSpec := { name := "clientPlays", fn := fun _ => fun
  | [d1, d2, d3, d4] => { results := [.lit (.bool false)], args := [d1, d2, d3, d4] }
  | _ => none }
def ClientPlaysWrongFalsely : Prop := clientPlaysRow.holds Tryz.pinned (OpenSpec.ofChange clientPlaysWrong)

/-- 'bowerlaw22.ClientDrops': WHATEVER THE INPUT: true; the input reads as it did. -/
def clientDropsSpec : ChangeSpec := { name := "clientDrops", fn := fun _ => fun
  | [d1, d2, d3, d4] => { results := [.lit (.bool true)], args := [d1, d2, d3, d4] }
  | _ => none }
def clientDropsRow : OpenClaim := { program := "ytbffliejmnokpaagreat", sum := "bd886298569d30b72d9b00da419ad86b5825ec40f4828271a6d82d1a45c524d7", func := "bower/bowerlaw22.ClientDrops", spec := "clientDrops", inPlace := ["internal/abi.NoEscape", "internal/bytealg.abigen_runtime_cmpstring"], unfollowed := true, recurses := true, loops := true, apart := false }
def ClientDropsSaid : Prop := clientDropsRow.holds Tryz.pinned (OpenSpec.ofChange clientDropsSpec)

/-- ITS FALSE NEIGHBOUR: 'it returns false'. Refute it at one input. -/
def clientDropsWrong : ChangeSpec := { name := "clientDrops", fn := fun _ => fun
  | [d1, d2, d3, d4] => { results := [.lit (.bool false)], args := [d1, d2, d3, d4] }
  | _ => none }
def ClientDropsWrongFalsely : Prop := clientDropsRow.holds Tryz.pinned (OpenSpec.ofChange clientDropsWrong)

/-- 'bowerlaw22.ClientFollows': WHATEVER THE INPUT: true; the input reads as it did. -/
def clientFollowsSpec : ChangeSpec := { name := "clientFollows", fn := fun _ => fun
  | [d1, d2] => { results := [.lit (.bool true)], args := [d1, d2] }
  | _ => none }
def clientFollowsRow : OpenClaim := { program := "ytbffliejmnokpaagreat", sum := "bd886298569d30b72d9b00da419ad86b5825ec40f4828271a6d82d1a45c524d7", func := "bower/bowerlaw22.ClientFollows", spec := "clientFollows", inPlace := ["internal/abi.NoEscape", "internal/bytealg.abigen_runtime_cmpstring"], unfollowed := true, recurses := true, loops := true, apart := false }
def ClientFollowsSaid : Prop := clientFollowsRow.holds Tryz.pinned (OpenSpec.ofChange clientFollowsSpec)

/-- ITS FALSE NEIGHBOUR: 'it returns false'. Refute it at one input. -/
def clientFollowsWrong : ChangeSpec := { name := "clientFollows", fn := fun _ => fun
  | [d1, d2] => { results := [.lit (.bool false)], args := [d1, d2] }
  | _ => none }
def ClientFollowsWrongFalsely : Prop := clientFollowsRow.holds Tryz.pinned (OpenSpec.ofChange clientFollowsWrong)

/-- 'bowerlaw22.ClientKnown': WHATEVER THE INPUT: true; the input reads as it did. -/
def clientKnownSpec : ChangeSpec := { name := "clientKnown", fn := fun _ => fun
  | [] => { results := [.lit (.bool true)], args := [] }
  | _ => none }
def clientKnownRow : OpenClaim := { program := "ytbffliejmnokpaagreat", sum := "bd886298569d30b72d9b00da419ad86b5825ec40f4828271a6d82d1a45c524d7", func := "bower/bowerlaw22.ClientKnown", spec := "clientKnown", inPlace := ["internal/abi.NoEscape", "internal/bytealg.abigen_runtime_cmpstring"], unfollowed := true, recurses := true, apart := false }
def ClientKnownSaid : Prop := clientKnownRow.holds Tryz.pinned (OpenSpec.ofChange clientKnownSpec)

/-- ITS FALSE NEIGHBOUR: 'it returns false'. Refute it at one input. -/
def clientKnownWrong : ChangeSpec := { name := "clientKnown", fn := fun _ => fun
  | [] => { results := [.lit (.bool false)], args := [] }
  | _ => none }
def ClientKnownWrongFalsely : Prop := clientKnownRow.holds Tryz.pinned (OpenSpec.ofChange clientKnownWrong)

/- THE SECOND FORM. 'bulk': how many values and letters a reading holds, each counted each time it is reached (what is shared counts as often as it is met; a slice's spare places count too). A statement '..UptoSaid' is the law's where the arguments, and the package variables that the reading takes, are together of bulk at most 1048576: NARROWER than '..Said'. Prove '..Said' where nothing that the law and all that it calls make is longer than what came in: it says more and counts as full. Else prove '..UptoSaid'. A law counts once. -/
mutual
def uptoBulk {H : Type} : DataW H → Nat
  | .lit (.string bytes) => bytes.length + 1
  | .lit _ => 1
  | .nil => 1
  | .ptr d => uptoBulk d + 1
  | .slice elems spare => uptoBulkAll elems + uptoBulkAll spare + 1
  | .agg parts => uptoBulkAll parts + 1
  | .iface _ d => uptoBulk d + 1
  | .map entries => uptoBulkEntries entries + 1
  | .held _ => 1
def uptoBulkAll {H : Type} : List (DataW H) → Nat
  | [] => 0
  | d :: r => uptoBulk d + uptoBulkAll r
def uptoBulkEntries {H : Type} : List (Lit × DataW H) → Nat
  | [] => 0
  | x :: r => uptoBulkEntry x + uptoBulkEntries r
def uptoBulkEntry {H : Type} : Lit × DataW H → Nat
  | (.string bytes, d) => bytes.length + uptoBulk d + 1
  | (_, d) => uptoBulk d + 1
 end
def uptoSmall : (H : Type) → List (DataW H) → Bool := fun _ ds => decide (uptoBulkAll ds ≤ 1048576)
def OpenSpec.upto (s : _root_.Go.ChangeSpec) : _root_.Go.OpenSpec := { _root_.Go.OpenSpec.ofChange s with cond := some uptoSmall }

/-- 'bowerlaw20.WindowCloses', WHERE WHAT IT READS IS OF BULK AT MOST 1048576: true; the input reads as it did. -/
def windowClosesUptoRow : OpenClaim := { program := "ytbffliejmnokpaagreat", sum := "bd886298569d30b72d9b00da419ad86b5825ec40f4828271a6d82d1a45c524d7", func := "bower/bowerlaw20.WindowCloses", spec := "windowCloses", inPlace := ["internal/abi.NoEscape", "internal/bytealg.abigen_runtime_cmpstring"], unfollowed := true, recurses := true, loops := true, apart := false, narrowed := true }
def WindowClosesUptoSaid : Prop := windowClosesUptoRow.holds Tryz.pinned (OpenSpec.upto windowClosesSpec)

/-- 'bowerlaw22.ClientPlays', WHERE WHAT IT READS IS OF BULK AT MOST 1048576: true; the input reads as it did. -/
def clientPlaysUptoRow : OpenClaim := { program := "ytbffliejmnokpaagreat", sum := "bd886298569d30b72d9b00da419ad86b5825ec40f4828271a6d82d1a45c524d7", func := "bower/bowerlaw22.ClientPlays", spec := "clientPlays", inPlace := ["internal/abi.NoEscape", "internal/bytealg.abigen_runtime_cmpstring"], unfollowed := true, recurses := true, loops := true, apart := false, narrowed := true }
def ClientPlaysUptoSaid : Prop := clientPlaysUptoRow.holds Tryz.pinned (OpenSpec.upto clientPlaysSpec)

/-- 'bowerlaw22.ClientDrops', WHERE WHAT IT READS IS OF BULK AT MOST 1048576: true; the input reads as it did. -/
def clientDropsUptoRow : OpenClaim := { program := "ytbffliejmnokpaagreat", sum := "bd886298569d30b72d9b00da419ad86b5825ec40f4828271a6d82d1a45c524d7", func := "bower/bowerlaw22.ClientDrops", spec := "clientDrops", inPlace := ["internal/abi.NoEscape", "internal/bytealg.abigen_runtime_cmpstring"], unfollowed := true, recurses := true, loops := true, apart := false, narrowed := true }
def ClientDropsUptoSaid : Prop := clientDropsUptoRow.holds Tryz.pinned (OpenSpec.upto clientDropsSpec)

/-- 'bowerlaw22.ClientFollows', WHERE WHAT IT READS IS OF BULK AT MOST 1048576: true; the input reads as it did. -/
def clientFollowsUptoRow : OpenClaim := { program := "ytbffliejmnokpaagreat", sum := "bd886298569d30b72d9b00da419ad86b5825ec40f4828271a6d82d1a45c524d7", func := "bower/bowerlaw22.ClientFollows", spec := "clientFollows", inPlace := ["internal/abi.NoEscape", "internal/bytealg.abigen_runtime_cmpstring"], unfollowed := true, recurses := true, loops := true, apart := false, narrowed := true }
def ClientFollowsUptoSaid : Prop := clientFollowsUptoRow.holds Tryz.pinned (OpenSpec.upto clientFollowsSpec)

/-- 'bowerlaw22.ClientKnown', WHERE WHAT IT READS IS OF BULK AT MOST 1048576: true; the input reads as it did. -/
def clientKnownUptoRow : OpenClaim := { program := "ytbffliejmnokpaagreat", sum := "bd886298569d30b72d9b00da419ad86b5825ec40f4828271a6d82d1a45c524d7", func := "bower/bowerlaw22.ClientKnown", spec := "clientKnown", inPlace := ["internal/abi.NoEscape", "internal/bytealg.abigen_runtime_cmpstring"], unfollowed := true, recurses := true, apart := false, narrowed := true }
def ClientKnownUptoSaid : Prop := clientKnownUptoRow.holds Tryz.pinned (OpenSpec.upto clientKnownSpec)

end Rows
end Go.Proofs.YtbffliejmnokpaaGreat
