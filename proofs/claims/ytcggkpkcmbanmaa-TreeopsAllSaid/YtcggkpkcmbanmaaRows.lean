/-
  NARROWER THAN 'FOR EVERY INPUT', by the rows' own cells (each row's printed sentence says how): LimitsCheck: loops · TreeopsValid: loops · TreeopsApply: loops · TreeopsRight: loops · TreeopsMoved: loops · TreeopsAll: loops · TreeopsSame: loops.
  DERIVED. THE GIVEN ROWS OF THIS SEAT. 9 by the template 'for every input the law returns true; each argument reads behind the call as it read before'; 0 by the template 'total and deterministic' (their statements: YtcggkpkcmbanmaaTotals.lean).
  GIVEN WITH THE SEED: the statements are not yours to turn. If you find one false, say at which input.
  Laid BY PROGRAM, IN A SANDBOX (cutbox-rows.mjs): the forced cells as the released guide's own fill.sh prints them over the translation 10298b3c177b5679… (all of the seat's roots in one cut). By AI agents, Wed Nov 11 2026. No macro, syntax, notation, axiom, sorry.
-/
import Derived.Test.YtcggkpkcmbanmaaChecked
import GoSem.Claim
import GoSem.ClaimJoined
import GoSem.ClaimMapViews
import Derived.JoinedTies
import Derived.KernelRfl
namespace Go.Proofs.Ytcggkpkcmbanmaa
/- THE CELL 'sum', in the pinned program and in every row, IS THE sha256 OF THE DUMP (.gsa) THAT YtcggkpkcmbanmaaProg.lean LOADS. Nothing in Lean hashes anything: it is a label: what it is worth is what the hold of that sum in a sandbox is worth. -/
noncomputable def Try.pinned : Pinned := { name := "ytcggkpkcmbanmaa", sum := "10298b3c177b5679a9351ec56edb881ac5451fc9d0acab648df87c634d8f5ce4", checked := Try.checked }
namespace Rows
def none {H : Type} : Left H := { results := [], args := [] }

/-- 'bowerlaw16.LimitsCheck': WHATEVER THE INPUT: true; the input reads as it did. -/
def limitsCheckSpec : ChangeSpec := { name := "limitsCheck", fn := fun _ => fun
  | [d] => { results := [.lit (.bool true)], args := [d] }
  | _ => none }
def limitsCheckRow : OpenClaim := { program := "ytcggkpkcmbanmaa", sum := "10298b3c177b5679a9351ec56edb881ac5451fc9d0acab648df87c634d8f5ce4", func := "bower/bowerlaw16.LimitsCheck", spec := "limitsCheck", unfollowed := true, recurses := true, loops := true, apart := false }
def LimitsCheckSaid : Prop := limitsCheckRow.holds Try.pinned (OpenSpec.ofChange limitsCheckSpec)

/-- ITS FALSE NEIGHBOUR: 'it returns false'. Refute it at one input. -/
def limitsCheckWrong : ChangeSpec := { name := "limitsCheck", fn := fun _ => fun
  | [d] => { results := [.lit (.bool false)], args := [d] }
  | _ => none }
def LimitsCheckWrongFalsely : Prop := limitsCheckRow.holds Try.pinned (OpenSpec.ofChange limitsCheckWrong)

/-- 'bowerlaw16.LimitsFits': WHATEVER THE INPUT: true; the input reads as it did. -/
def limitsFitsSpec : ChangeSpec := { name := "limitsFits", fn := fun _ => fun
  | [d] => { results := [.lit (.bool true)], args := [d] }
  | _ => none }
def limitsFitsRow : OpenClaim := { program := "ytcggkpkcmbanmaa", sum := "10298b3c177b5679a9351ec56edb881ac5451fc9d0acab648df87c634d8f5ce4", func := "bower/bowerlaw16.LimitsFits", spec := "limitsFits", unfollowed := true, recurses := true, apart := false }
def LimitsFitsSaid : Prop := limitsFitsRow.holds Try.pinned (OpenSpec.ofChange limitsFitsSpec)

/-- ITS FALSE NEIGHBOUR: 'it returns false'. Refute it at one input. -/
def limitsFitsWrong : ChangeSpec := { name := "limitsFits", fn := fun _ => fun
  | [d] => { results := [.lit (.bool false)], args := [d] }
  | _ => none }
def LimitsFitsWrongFalsely : Prop := limitsFitsRow.holds Try.pinned (OpenSpec.ofChange limitsFitsWrong)

/-- 'bowerlaw08.TreeopsFormed': WHATEVER THE INPUT: true; the input reads as it did. -/
def treeopsFormedSpec : ChangeSpec := { name := "treeopsFormed", fn := fun _ => fun
  | [d] => { results := [.lit (.bool true)], args := [d] }
  | _ => none }
def treeopsFormedRow : OpenClaim := { program := "ytcggkpkcmbanmaa", sum := "10298b3c177b5679a9351ec56edb881ac5451fc9d0acab648df87c634d8f5ce4", func := "bower/bowerlaw08.TreeopsFormed", spec := "treeopsFormed", inPlace := ["internal/abi.NoEscape", "internal/bytealg.abigen_runtime_cmpstring"], unfollowed := true, recurses := true, apart := false }
def TreeopsFormedSaid : Prop := treeopsFormedRow.holds Try.pinned (OpenSpec.ofChange treeopsFormedSpec)

/-- ITS FALSE NEIGHBOUR: 'it returns false'. Refute it at one input. -/
def treeopsFormedWrong : ChangeSpec := { name := "treeopsFormed", fn := fun _ => fun
  | [d] => { results := [.lit (.bool false)], args := [d] }
  | _ => none }
def TreeopsFormedWrongFalsely : Prop := treeopsFormedRow.holds Try.pinned (OpenSpec.ofChange treeopsFormedWrong)

/-- 'bowerlaw08.TreeopsValid': WHATEVER THE INPUT: true; the input reads as it did. -/
def treeopsValidSpec : ChangeSpec := { name := "treeopsValid", fn := fun _ => fun
  | [d1, d2] => { results := [.lit (.bool true)], args := [d1, d2] }
  | _ => none }
def treeopsValidRow : OpenClaim := { program := "ytcggkpkcmbanmaa", sum := "10298b3c177b5679a9351ec56edb881ac5451fc9d0acab648df87c634d8f5ce4", func := "bower/bowerlaw08.TreeopsValid", spec := "treeopsValid", inPlace := ["internal/abi.NoEscape", "internal/bytealg.abigen_runtime_cmpstring"], unfollowed := true, recurses := true, loops := true, apart := false }
def TreeopsValidSaid : Prop := treeopsValidRow.holds Try.pinned (OpenSpec.ofChange treeopsValidSpec)

/-- ITS FALSE NEIGHBOUR: 'it returns false'. Refute it at one input. -/
def treeopsValidWrong : ChangeSpec := { name := "treeopsValid", fn := fun _ => fun
  | [d1, d2] => { results := [.lit (.bool false)], args := [d1, d2] }
  | _ => none }
def TreeopsValidWrongFalsely : Prop := treeopsValidRow.holds Try.pinned (OpenSpec.ofChange treeopsValidWrong)

/-- 'bowerlaw08.TreeopsApply': WHATEVER THE INPUT: true; the input reads as it did. -/
def treeopsApplySpec : ChangeSpec := { name := "treeopsApply", fn := fun _ => fun
  | [d1, d2] => { results := [.lit (.bool true)], args := [d1, d2] }
  | _ => none }
def treeopsApplyRow : OpenClaim := { program := "ytcggkpkcmbanmaa", sum := "10298b3c177b5679a9351ec56edb881ac5451fc9d0acab648df87c634d8f5ce4", func := "bower/bowerlaw08.TreeopsApply", spec := "treeopsApply", inPlace := ["internal/abi.NoEscape", "internal/bytealg.abigen_runtime_cmpstring"], unfollowed := true, recurses := true, loops := true, apart := false }
def TreeopsApplySaid : Prop := treeopsApplyRow.holds Try.pinned (OpenSpec.ofChange treeopsApplySpec)

/-- ITS FALSE NEIGHBOUR: 'it returns false'. Refute it at one input. -/
def treeopsApplyWrong : ChangeSpec := { name := "treeopsApply", fn := fun _ => fun
  | [d1, d2] => { results := [.lit (.bool false)], args := [d1, d2] }
  | _ => none }
def TreeopsApplyWrongFalsely : Prop := treeopsApplyRow.holds Try.pinned (OpenSpec.ofChange treeopsApplyWrong)

/-- 'bowerlaw08.TreeopsRight': WHATEVER THE INPUT: true; the input reads as it did. -/
def treeopsRightSpec : ChangeSpec := { name := "treeopsRight", fn := fun _ => fun
  | [d1, d2] => { results := [.lit (.bool true)], args := [d1, d2] }
  | _ => none }
def treeopsRightRow : OpenClaim := { program := "ytcggkpkcmbanmaa", sum := "10298b3c177b5679a9351ec56edb881ac5451fc9d0acab648df87c634d8f5ce4", func := "bower/bowerlaw08.TreeopsRight", spec := "treeopsRight", inPlace := ["internal/abi.NoEscape", "internal/bytealg.abigen_runtime_cmpstring"], unfollowed := true, recurses := true, loops := true, apart := false }
def TreeopsRightSaid : Prop := treeopsRightRow.holds Try.pinned (OpenSpec.ofChange treeopsRightSpec)

/-- ITS FALSE NEIGHBOUR: 'it returns false'. Refute it at one input. -/
def treeopsRightWrong : ChangeSpec := { name := "treeopsRight", fn := fun _ => fun
  | [d1, d2] => { results := [.lit (.bool false)], args := [d1, d2] }
  | _ => none }
def TreeopsRightWrongFalsely : Prop := treeopsRightRow.holds Try.pinned (OpenSpec.ofChange treeopsRightWrong)

/-- 'bowerlaw08.TreeopsMoved': WHATEVER THE INPUT: true; the input reads as it did. -/
def treeopsMovedSpec : ChangeSpec := { name := "treeopsMoved", fn := fun _ => fun
  | [d1, d2, d3, d4] => { results := [.lit (.bool true)], args := [d1, d2, d3, d4] }
  | _ => none }
def treeopsMovedRow : OpenClaim := { program := "ytcggkpkcmbanmaa", sum := "10298b3c177b5679a9351ec56edb881ac5451fc9d0acab648df87c634d8f5ce4", func := "bower/bowerlaw08.TreeopsMoved", spec := "treeopsMoved", inPlace := ["internal/abi.NoEscape", "internal/bytealg.abigen_runtime_cmpstring"], unfollowed := true, recurses := true, loops := true, apart := false }
def TreeopsMovedSaid : Prop := treeopsMovedRow.holds Try.pinned (OpenSpec.ofChange treeopsMovedSpec)

/-- ITS FALSE NEIGHBOUR: 'it returns false'. Refute it at one input. -/
def treeopsMovedWrong : ChangeSpec := { name := "treeopsMoved", fn := fun _ => fun
  | [d1, d2, d3, d4] => { results := [.lit (.bool false)], args := [d1, d2, d3, d4] }
  | _ => none }
def TreeopsMovedWrongFalsely : Prop := treeopsMovedRow.holds Try.pinned (OpenSpec.ofChange treeopsMovedWrong)

/-- 'bowerlaw08.TreeopsAll': WHATEVER THE INPUT: true; the input reads as it did. -/
def treeopsAllSpec : ChangeSpec := { name := "treeopsAll", fn := fun _ => fun
  | [d1, d2] => { results := [.lit (.bool true)], args := [d1, d2] }
  | _ => none }
def treeopsAllRow : OpenClaim := { program := "ytcggkpkcmbanmaa", sum := "10298b3c177b5679a9351ec56edb881ac5451fc9d0acab648df87c634d8f5ce4", func := "bower/bowerlaw08.TreeopsAll", spec := "treeopsAll", inPlace := ["internal/abi.NoEscape", "internal/bytealg.abigen_runtime_cmpstring"], unfollowed := true, recurses := true, loops := true, apart := false }
def TreeopsAllSaid : Prop := treeopsAllRow.holds Try.pinned (OpenSpec.ofChange treeopsAllSpec)

/-- ITS FALSE NEIGHBOUR: 'it returns false'. Refute it at one input. -/
def treeopsAllWrong : ChangeSpec := { name := "treeopsAll", fn := fun _ => fun
  | [d1, d2] => { results := [.lit (.bool false)], args := [d1, d2] }
  | _ => none }
def TreeopsAllWrongFalsely : Prop := treeopsAllRow.holds Try.pinned (OpenSpec.ofChange treeopsAllWrong)

/-- 'bowerlaw08.TreeopsSame': WHATEVER THE INPUT: true; the input reads as it did. -/
def treeopsSameSpec : ChangeSpec := { name := "treeopsSame", fn := fun _ => fun
  | [d1, d2, d3] => { results := [.lit (.bool true)], args := [d1, d2, d3] }
  | _ => none }
def treeopsSameRow : OpenClaim := { program := "ytcggkpkcmbanmaa", sum := "10298b3c177b5679a9351ec56edb881ac5451fc9d0acab648df87c634d8f5ce4", func := "bower/bowerlaw08.TreeopsSame", spec := "treeopsSame", inPlace := ["internal/abi.NoEscape", "internal/bytealg.abigen_runtime_cmpstring"], unfollowed := true, recurses := true, loops := true, apart := false }
def TreeopsSameSaid : Prop := treeopsSameRow.holds Try.pinned (OpenSpec.ofChange treeopsSameSpec)

/-- ITS FALSE NEIGHBOUR: 'it returns false'. Refute it at one input. -/
def treeopsSameWrong : ChangeSpec := { name := "treeopsSame", fn := fun _ => fun
  | [d1, d2, d3] => { results := [.lit (.bool false)], args := [d1, d2, d3] }
  | _ => none }
def TreeopsSameWrongFalsely : Prop := treeopsSameRow.holds Try.pinned (OpenSpec.ofChange treeopsSameWrong)

/- THE SECOND FORM. 'bulk': how many values and letters a reading holds, each counted each time it is reached (what is shared counts as often as it is met; a slice's spare places count too). A statement '..UptoSaid' is the law's where the arguments, and the package variables that the reading takes, are together of bulk at most 1048576: NARROWER than '..Said'. Prove '..Said' where nothing that the law and all that it calls make is longer than what came in: it says more and counts as full. Else prove '..UptoSaid'. A law counts once. -/
mutual
def uptoBulk {H : Type} : DataW H → Nat
  | .lit (.string bytes) => bytes.length + 1
  | .lit _ => 1
  | .nil => 1
  | .ptr d => uptoBulk d + 1
  | .slice elems spare => uptoBulkAll elems + uptoBulkAll spare + 1
  | .agg parts => uptoBulkAll parts + 1
  | .iface _ d => uptoBulk d + 1
  | .map entries => uptoBulkEntries entries + 1
  | .held _ => 1
def uptoBulkAll {H : Type} : List (DataW H) → Nat
  | [] => 0
  | d :: r => uptoBulk d + uptoBulkAll r
def uptoBulkEntries {H : Type} : List (Lit × DataW H) → Nat
  | [] => 0
  | x :: r => uptoBulkEntry x + uptoBulkEntries r
def uptoBulkEntry {H : Type} : Lit × DataW H → Nat
  | (.string bytes, d) => bytes.length + uptoBulk d + 1
  | (_, d) => uptoBulk d + 1
 end
def uptoSmall : (H : Type) → List (DataW H) → Bool := fun _ ds => decide (uptoBulkAll ds ≤ 1048576)
def OpenSpec.upto (s : _root_.Go.ChangeSpec) : _root_.Go.OpenSpec := { _root_.Go.OpenSpec.ofChange s with cond := some uptoSmall }

/-- 'bowerlaw16.LimitsCheck', WHERE WHAT IT READS IS OF BULK AT MOST 1048576: true; the input reads as it did. -/
def limitsCheckUptoRow : OpenClaim := { program := "ytcggkpkcmbanmaa", sum := "10298b3c177b5679a9351ec56edb881ac5451fc9d0acab648df87c634d8f5ce4", func := "bower/bowerlaw16.LimitsCheck", spec := "limitsCheck", unfollowed := true, recurses := true, loops := true, apart := false, narrowed := true }
def LimitsCheckUptoSaid : Prop := limitsCheckUptoRow.holds Try.pinned (OpenSpec.upto limitsCheckSpec)

/-- 'bowerlaw16.LimitsFits', WHERE WHAT IT READS IS OF BULK AT MOST 1048576: true; the input reads as it did. -/
def limitsFitsUptoRow : OpenClaim := { program := "ytcggkpkcmbanmaa", sum := "10298b3c177b5679a9351ec56edb881ac5451fc9d0acab648df87c634d8f5ce4", func := "bower/bowerlaw16.LimitsFits", spec := "limitsFits", unfollowed := true, recurses := true, apart := false, narrowed := true }
def LimitsFitsUptoSaid : Prop := limitsFitsUptoRow.holds Try.pinned (OpenSpec.upto limitsFitsSpec)

/-- 'bowerlaw08.TreeopsFormed', WHERE WHAT IT READS IS OF BULK AT MOST 1048576: true; the input reads as it did. -/
def treeopsFormedUptoRow : OpenClaim := { program := "ytcggkpkcmbanmaa", sum := "10298b3c177b5679a9351ec56edb881ac5451fc9d0acab648df87c634d8f5ce4", func := "bower/bowerlaw08.TreeopsFormed", spec := "treeopsFormed", inPlace := ["internal/abi.NoEscape", "internal/bytealg.abigen_runtime_cmpstring"], unfollowed := true, recurses := true, apart := false, narrowed := true }
def TreeopsFormedUptoSaid : Prop := treeopsFormedUptoRow.holds Try.pinned (OpenSpec.upto treeopsFormedSpec)

/-- 'bowerlaw08.TreeopsValid', WHERE WHAT IT READS IS OF BULK AT MOST 1048576: true; the input reads as it did. -/
def treeopsValidUptoRow : OpenClaim := { program := "ytcggkpkcmbanmaa", sum := "10298b3c177b5679a9351ec56edb881ac5451fc9d0acab648df87c634d8f5ce4", func := "bower/bowerlaw08.TreeopsValid", spec := "treeopsValid", inPlace := ["internal/abi.NoEscape", "internal/bytealg.abigen_runtime_cmpstring"], unfollowed := true, recurses := true, loops := true, apart := false, narrowed := true }
def TreeopsValidUptoSaid : Prop := treeopsValidUptoRow.holds Try.pinned (OpenSpec.upto treeopsValidSpec)

/-- 'bowerlaw08.TreeopsApply', WHERE WHAT IT READS IS OF BULK AT MOST 1048576: true; the input reads as it did. -/
def treeopsApplyUptoRow : OpenClaim := { program := "ytcggkpkcmbanmaa", sum := "10298b3c177b5679a9351ec56edb881ac5451fc9d0acab648df87c634d8f5ce4", func := "bower/bowerlaw08.TreeopsApply", spec := "treeopsApply", inPlace := ["internal/abi.NoEscape", "internal/bytealg.abigen_runtime_cmpstring"], unfollowed := true, recurses := true, loops := true, apart := false, narrowed := true }
def TreeopsApplyUptoSaid : Prop := treeopsApplyUptoRow.holds Try.pinned (OpenSpec.upto treeopsApplySpec)

/-- 'bowerlaw08.TreeopsRight', WHERE WHAT IT READS IS OF BULK AT MOST 1048576: true; the input reads as it did. -/
def treeopsRightUptoRow : OpenClaim := { program := "ytcggkpkcmbanmaa", sum := "10298b3c177b5679a9351ec56edb881ac5451fc9d0acab648df87c634d8f5ce4", func := "bower/bowerlaw08.TreeopsRight", spec := "treeopsRight", inPlace := ["internal/abi.NoEscape", "internal/bytealg.abigen_runtime_cmpstring"], unfollowed := true, recurses := true, loops := true, apart := false, narrowed := true }
def TreeopsRightUptoSaid : Prop := treeopsRightUptoRow.holds Try.pinned (OpenSpec.upto treeopsRightSpec)

/-- 'bowerlaw08.TreeopsMoved', WHERE WHAT IT READS IS OF BULK AT MOST 1048576: true; the input reads as it did. -/
def treeopsMovedUptoRow : OpenClaim := { program := "ytcggkpkcmbanmaa", sum := "10298b3c177b5679a9351ec56edb881ac5451fc9d0acab648df87c634d8f5ce4", func := "bower/bowerlaw08.TreeopsMoved", spec := "treeopsMoved", inPlace := ["internal/abi.NoEscape", "internal/bytealg.abigen_runtime_cmpstring"], unfollowed := true, recurses := true, loops := true, apart := false, narrowed := true }
def TreeopsMovedUptoSaid : Prop := treeopsMovedUptoRow.holds Try.pinned (OpenSpec.upto treeopsMovedSpec)

/-- 'bowerlaw08.TreeopsAll', WHERE WHAT IT READS IS OF BULK AT MOST 1048576: true; the input reads as it did. -/
def treeopsAllUptoRow : OpenClaim := { program := "ytcggkpkcmbanmaa", sum := "10298b3c177b5679a9351ec56edb881ac5451fc9d0acab648df87c634d8f5ce4", func := "bower/bowerlaw08.TreeopsAll", spec := "treeopsAll", inPlace := ["internal/abi.NoEscape", "internal/bytealg.abigen_runtime_cmpstring"], unfollowed := true, recurses := true, loops := true, apart := false, narrowed := true }
def TreeopsAllUptoSaid : Prop := treeopsAllUptoRow.holds Try.pinned (OpenSpec.upto treeopsAllSpec)

/-- 'bowerlaw08.TreeopsSame', WHERE WHAT IT READS IS OF BULK AT MOST 1048576: true; the input reads as it did. -/
def treeopsSameUptoRow : OpenClaim := { program := "ytcggkpkcmbanmaa", sum := "10298b3c177b5679a9351ec56edb881ac5451fc9d0acab648df87c634d8f5ce4", func := "bower/bowerlaw08.TreeopsSame", spec := "treeopsSame", inPlace := ["internal/abi.NoEscape", "internal/bytealg.abigen_runtime_cmpstring"], unfollowed := true, recurses := true, loops := true, apart := false, narrowed := true }
def TreeopsSameUptoSaid : Prop := treeopsSameUptoRow.holds Try.pinned (OpenSpec.upto treeopsSameSpec)

end Rows
end Go.Proofs.Ytcggkpkcmbanmaa
