/-
  NARROWER THAN 'FOR EVERY INPUT', by the rows' own cells (each row's printed sentence says how): EffectsCorner: loops · EffectsFind: loops.
  DERIVED. THE GIVEN ROWS OF THIS SEAT. 6 by the template 'for every input the law returns true; each argument reads behind the call as it read before'; 0 by the template 'total and deterministic' (their statements: YthaigpiepfdaeaaGreatTotals.lean).
  GIVEN WITH THE SEED: the statements are not yours to turn. If you find one false, say at which input.
  Laid BY PROGRAM, IN A SANDBOX (cutbox-rows.mjs): the forced cells as the released guide's own fill.sh prints them over the translation 38e7da75d31e4958… (all of the seat's roots in one cut). By AI agents, Wed Nov 11 2026. No macro, syntax, notation, axiom, sorry.
-/
import Derived.Test.YthaigpiepfdaeaaGreatChecked
import GoSem.Claim
import GoSem.ClaimJoined
import GoSem.ClaimMapViews
import Derived.JoinedTies
import Derived.KernelRfl
namespace Go.Proofs.YthaigpiepfdaeaaGreat
/- THE CELL 'sum', in the pinned program and in every row, IS THE sha256 OF THE DUMP (.gsa) THAT YthaigpiepfdaeaaGreatProg.lean LOADS. Nothing in Lean hashes anything: it is a label: what it is worth is what the hold of that sum in a sandbox is worth. -/
noncomputable def Tryz.pinned : Pinned := { name := "ythaigpiepfdaeaagreat", sum := "38e7da75d31e4958d525723da4106149efea5efbab1f0e079a08f77b876add9c", checked := Tryz.checked }
namespace Rows
def none {H : Type} : Left H := { results := [], args := [] }

/-- 'bowerlaw08.TreeopsKnown': WHATEVER THE INPUT: true; the input reads as it did. -/
def treeopsKnownSpec : ChangeSpec := { name := "treeopsKnown", fn := fun _ => fun
  | [] => { results := [.lit (.bool true)], args := [] }
  | _ => none }
def treeopsKnownRow : OpenClaim := { program := "ythaigpiepfdaeaagreat", sum := "38e7da75d31e4958d525723da4106149efea5efbab1f0e079a08f77b876add9c", func := "bower/bowerlaw08.TreeopsKnown", spec := "treeopsKnown", inPlace := ["internal/abi.NoEscape", "internal/bytealg.abigen_runtime_cmpstring"], unfollowed := true, recurses := true, apart := false }
def TreeopsKnownSaid : Prop := treeopsKnownRow.holds Tryz.pinned (OpenSpec.ofChange treeopsKnownSpec)

/-- ITS FALSE NEIGHBOUR: 'it returns false'. Refute it at one input. -/
def treeopsKnownWrong : ChangeSpec := { name := "treeopsKnown", fn := fun _ => fun
  | [] => { results := [.lit (.bool false)], args := [] }
  | _ => none }
def TreeopsKnownWrongFalsely : Prop := treeopsKnownRow.holds Tryz.pinned (OpenSpec.ofChange treeopsKnownWrong)

/-- 'bowerlaw09.InvertKnown': WHATEVER THE INPUT: true; the input reads as it did. -/
def invertKnownSpec : ChangeSpec := { name := "invertKnown", fn := fun _ => fun
  | [] => { results := [.lit (.bool true)], args := [] }
  | _ => none }
def invertKnownRow : OpenClaim := { program := "ythaigpiepfdaeaagreat", sum := "38e7da75d31e4958d525723da4106149efea5efbab1f0e079a08f77b876add9c", func := "bower/bowerlaw09.InvertKnown", spec := "invertKnown", inPlace := ["internal/abi.NoEscape", "internal/bytealg.abigen_runtime_cmpstring"], unfollowed := true, recurses := true, apart := false }
def InvertKnownSaid : Prop := invertKnownRow.holds Tryz.pinned (OpenSpec.ofChange invertKnownSpec)

/-- ITS FALSE NEIGHBOUR: 'it returns false'. Refute it at one input. -/
def invertKnownWrong : ChangeSpec := { name := "invertKnown", fn := fun _ => fun
  | [] => { results := [.lit (.bool false)], args := [] }
  | _ => none }
def InvertKnownWrongFalsely : Prop := invertKnownRow.holds Tryz.pinned (OpenSpec.ofChange invertKnownWrong)

/-- 'bowerlaw13.ListsKnown': WHATEVER THE INPUT: true; the input reads as it did. -/
def listsKnownSpec : ChangeSpec := { name := "listsKnown", fn := fun _ => fun
  | [] => { results := [.lit (.bool true)], args := [] }
  | _ => none }
def listsKnownRow : OpenClaim := { program := "ythaigpiepfdaeaagreat", sum := "38e7da75d31e4958d525723da4106149efea5efbab1f0e079a08f77b876add9c", func := "bower/bowerlaw13.ListsKnown", spec := "listsKnown", unfollowed := true, recurses := true, apart := false }
def ListsKnownSaid : Prop := listsKnownRow.holds Tryz.pinned (OpenSpec.ofChange listsKnownSpec)

/-- ITS FALSE NEIGHBOUR: 'it returns false'. Refute it at one input. -/
def listsKnownWrong : ChangeSpec := { name := "listsKnown", fn := fun _ => fun
  | [] => { results := [.lit (.bool false)], args := [] }
  | _ => none }
def ListsKnownWrongFalsely : Prop := listsKnownRow.holds Tryz.pinned (OpenSpec.ofChange listsKnownWrong)

/-- 'bowerlaw14.EffectsCorner': WHATEVER THE INPUT: true; the input reads as it did. -/
def effectsCornerSpec : ChangeSpec := { name := "effectsCorner", fn := fun _ => fun
  | [d1, d2, d3, d4] => { results := [.lit (.bool true)], args := [d1, d2, d3, d4] }
  | _ => none }
def effectsCornerRow : OpenClaim := { program := "ythaigpiepfdaeaagreat", sum := "38e7da75d31e4958d525723da4106149efea5efbab1f0e079a08f77b876add9c", func := "bower/bowerlaw14.EffectsCorner", spec := "effectsCorner", inPlace := ["internal/abi.NoEscape", "internal/bytealg.abigen_runtime_cmpstring"], unfollowed := true, recurses := true, loops := true, apart := false }
def EffectsCornerSaid : Prop := effectsCornerRow.holds Tryz.pinned (OpenSpec.ofChange effectsCornerSpec)

/-- ITS FALSE NEIGHBOUR: 'it returns false'. Refute it at one input. -/
def effectsCornerWrong : ChangeSpec := { name := "effectsCorner", fn := fun _ => fun
  | [d1, d2, d3, d4] => { results := [.lit (.bool false)], args := [d1, d2, d3, d4] }
  | _ => none }
def EffectsCornerWrongFalsely : Prop := effectsCornerRow.holds Tryz.pinned (OpenSpec.ofChange effectsCornerWrong)

/-- 'bowerlaw14.EffectsFind': WHATEVER THE INPUT: true; the input reads as it did. -/
def effectsFindSpec : ChangeSpec := { name := "effectsFind", fn := fun _ => fun
  | [d1, d2] => { results := [.lit (.bool true)], args := [d1, d2] }
  | _ => none }
def effectsFindRow : OpenClaim := { program := "ythaigpiepfdaeaagreat", sum := "38e7da75d31e4958d525723da4106149efea5efbab1f0e079a08f77b876add9c", func := "bower/bowerlaw14.EffectsFind", spec := "effectsFind", inPlace := ["internal/abi.NoEscape", "internal/bytealg.abigen_runtime_cmpstring"], unfollowed := true, recurses := true, loops := true, apart := false }
def EffectsFindSaid : Prop := effectsFindRow.holds Tryz.pinned (OpenSpec.ofChange effectsFindSpec)

/-- ITS FALSE NEIGHBOUR: 'it returns false'. Refute it at one input. -/
def effectsFindWrong : ChangeSpec := { name := "effectsFind", fn := fun _ => fun
  | [d1, d2] => { results := [.lit (.bool false)], args := [d1, d2] }
  | _ => none }
def EffectsFindWrongFalsely : Prop := effectsFindRow.holds Tryz.pinned (OpenSpec.ofChange effectsFindWrong)

/-- 'bowerlaw14.EffectsKnown': WHATEVER THE INPUT: true; the input reads as it did. -/
def effectsKnownSpec : ChangeSpec := { name := "effectsKnown", fn := fun _ => fun
  | [] => { results := [.lit (.bool true)], args := [] }
  | _ => none }
def effectsKnownRow : OpenClaim := { program := "ythaigpiepfdaeaagreat", sum := "38e7da75d31e4958d525723da4106149efea5efbab1f0e079a08f77b876add9c", func := "bower/bowerlaw14.EffectsKnown", spec := "effectsKnown", inPlace := ["internal/abi.NoEscape", "internal/bytealg.abigen_runtime_cmpstring"], unfollowed := true, recurses := true, apart := false }
def EffectsKnownSaid : Prop := effectsKnownRow.holds Tryz.pinned (OpenSpec.ofChange effectsKnownSpec)

/-- ITS FALSE NEIGHBOUR: 'it returns false'. Refute it at one input. -/
def effectsKnownWrong : ChangeSpec := { name := "effectsKnown", fn := fun _ => fun
  | [] => { results := [.lit (.bool false)], args := [] }
  | _ => none }
def EffectsKnownWrongFalsely : Prop := effectsKnownRow.holds Tryz.pinned (OpenSpec.ofChange effectsKnownWrong)

/- THE SECOND FORM. 'bulk': how many values and letters a reading holds, each counted each time it is reached (what is shared counts as often as it is met; a slice's spare places count too). A statement '..UptoSaid' is the law's where the arguments, and the package variables that the reading takes, are together of bulk at most 1048576: NARROWER than '..Said'. Prove '..Said' where nothing that the law and all that it calls make is longer than what came in: it says more and counts as full. Else prove '..UptoSaid'. A law counts once. -/
mutual
def uptoBulk {H : Type} : DataW H → Nat
  | .lit (.string bytes) => bytes.length + 1
  | .lit _ => 1
  | .nil => 1
  | .ptr d => uptoBulk d + 1
  | .slice elems spare => uptoBulkAll elems + uptoBulkAll spare + 1
  | .agg parts => uptoBulkAll parts + 1
  | .iface _ d => uptoBulk d + 1
  | .map entries => uptoBulkEntries entries + 1
  | .held _ => 1
def uptoBulkAll {H : Type} : List (DataW H) → Nat
  | [] => 0
  | d :: r => uptoBulk d + uptoBulkAll r
def uptoBulkEntries {H : Type} : List (Lit × DataW H) → Nat
  | [] => 0
  | x :: r => uptoBulkEntry x + uptoBulkEntries r
def uptoBulkEntry {H : Type} : Lit × DataW H → Nat
  | (.string bytes, d) => bytes.length + uptoBulk d + 1
  | (_, d) => uptoBulk d + 1
 end
def uptoSmall : (H : Type) → List (DataW H) → Bool := fun _ ds => decide (uptoBulkAll ds ≤ 1048576)
def OpenSpec.upto (s : _root_.Go.ChangeSpec) : _root_.Go.OpenSpec := { _root_.Go.OpenSpec.ofChange s with cond := some uptoSmall }

/-- 'bowerlaw08.TreeopsKnown', WHERE WHAT IT READS IS OF BULK AT MOST 1048576: true; the input reads as it did. -/
def treeopsKnownUptoRow : OpenClaim := { program := "ythaigpiepfdaeaagreat", sum := "38e7da75d31e4958d525723da4106149efea5efbab1f0e079a08f77b876add9c", func := "bower/bowerlaw08.TreeopsKnown", spec := "treeopsKnown", inPlace := ["internal/abi.NoEscape", "internal/bytealg.abigen_runtime_cmpstring"], unfollowed := true, recurses := true, apart := false, narrowed := true }
def TreeopsKnownUptoSaid : Prop := treeopsKnownUptoRow.holds Tryz.pinned (OpenSpec.upto treeopsKnownSpec)

/-- 'bowerlaw09.InvertKnown', WHERE WHAT IT READS IS OF BULK AT MOST 1048576: true; the input reads as it did. -/
def invertKnownUptoRow : OpenClaim := { program := "ythaigpiepfdaeaagreat", sum := "38e7da75d31e4958d525723da4106149efea5efbab1f0e079a08f77b876add9c", func := "bower/bowerlaw09.InvertKnown", spec := "invertKnown", inPlace := ["internal/abi.NoEscape", "internal/bytealg.abigen_runtime_cmpstring"], unfollowed := true, recurses := true, apart := false, narrowed := true }
def InvertKnownUptoSaid : Prop := invertKnownUptoRow.holds Tryz.pinned (OpenSpec.upto invertKnownSpec)

/-- 'bowerlaw13.ListsKnown', WHERE WHAT IT READS IS OF BULK AT MOST 1048576: true; the input reads as it did. -/
def listsKnownUptoRow : OpenClaim := { program := "ythaigpiepfdaeaagreat", sum := "38e7da75d31e4958d525723da4106149efea5efbab1f0e079a08f77b876add9c", func := "bower/bowerlaw13.ListsKnown", spec := "listsKnown", unfollowed := true, recurses := true, apart := false, narrowed := true }
def ListsKnownUptoSaid : Prop := listsKnownUptoRow.holds Tryz.pinned (OpenSpec.upto listsKnownSpec)

/-- 'bowerlaw14.EffectsCorner', WHERE WHAT IT READS IS OF BULK AT MOST 1048576: true; the input reads as it did. -/
def effectsCornerUptoRow : OpenClaim := { program := "ythaigpiepfdaeaagreat", sum := "38e7da75d31e4958d525723da4106149efea5efbab1f0e079a08f77b876add9c", func := "bower/bowerlaw14.EffectsCorner", spec := "effectsCorner", inPlace := ["internal/abi.NoEscape", "internal/bytealg.abigen_runtime_cmpstring"], unfollowed := true, recurses := true, loops := true, apart := false, narrowed := true }
def EffectsCornerUptoSaid : Prop := effectsCornerUptoRow.holds Tryz.pinned (OpenSpec.upto effectsCornerSpec)

/-- 'bowerlaw14.EffectsFind', WHERE WHAT IT READS IS OF BULK AT MOST 1048576: true; the input reads as it did. -/
def effectsFindUptoRow : OpenClaim := { program := "ythaigpiepfdaeaagreat", sum := "38e7da75d31e4958d525723da4106149efea5efbab1f0e079a08f77b876add9c", func := "bower/bowerlaw14.EffectsFind", spec := "effectsFind", inPlace := ["internal/abi.NoEscape", "internal/bytealg.abigen_runtime_cmpstring"], unfollowed := true, recurses := true, loops := true, apart := false, narrowed := true }
def EffectsFindUptoSaid : Prop := effectsFindUptoRow.holds Tryz.pinned (OpenSpec.upto effectsFindSpec)

/-- 'bowerlaw14.EffectsKnown', WHERE WHAT IT READS IS OF BULK AT MOST 1048576: true; the input reads as it did. -/
def effectsKnownUptoRow : OpenClaim := { program := "ythaigpiepfdaeaagreat", sum := "38e7da75d31e4958d525723da4106149efea5efbab1f0e079a08f77b876add9c", func := "bower/bowerlaw14.EffectsKnown", spec := "effectsKnown", inPlace := ["internal/abi.NoEscape", "internal/bytealg.abigen_runtime_cmpstring"], unfollowed := true, recurses := true, apart := false, narrowed := true }
def EffectsKnownUptoSaid : Prop := effectsKnownUptoRow.holds Tryz.pinned (OpenSpec.upto effectsKnownSpec)

end Rows
end Go.Proofs.YthaigpiepfdaeaaGreat
