/-
  No cell of these rows narrows 'for every input' (looked for: loops, veiled, ifaces, maps, wideKeys, modest, calm, conditions, laid).
  DERIVED. THE GIVEN ROWS OF THIS SEAT. 3 by the template 'for every input the law returns true; each argument reads behind the call as it read before'; 0 by the template 'total and deterministic' (their statements: YtabiacfangjbeaaTotals.lean).
  GIVEN WITH THE SEED: the statements are not yours to turn. If you find one false, say at which input.
  Laid BY PROGRAM, IN A SANDBOX (cutbox-rows.mjs): the forced cells as the released guide's own fill.sh prints them over the translation d9f33ea7fa842929… (all of the seat's roots in one cut). By AI agents, Wed Nov 11 2026. No macro, syntax, notation, axiom, sorry.
-/
import Derived.Test.YtabiacfangjbeaaChecked
import GoSem.Claim
import GoSem.ClaimJoined
import GoSem.ClaimMapViews
import Derived.JoinedTies
import Derived.KernelRfl
namespace Go.Proofs.Ytabiacfangjbeaa
/- THE CELL 'sum', in the pinned program and in every row, IS THE sha256 OF THE DUMP (.gsa) THAT YtabiacfangjbeaaProg.lean LOADS. Nothing in Lean hashes anything: it is a label: what it is worth is what the hold of that sum in a sandbox is worth. -/
noncomputable def Try.pinned : Pinned := { name := "ytabiacfangjbeaa", sum := "d9f33ea7fa84292930149a757bfb63613b77f3547b25d28cf9a0507cdaeb4311", checked := Try.checked }
namespace Rows
def none {H : Type} : Left H := { results := [], args := [] }

/-- 'laws.FnExactFromFixed': WHATEVER THE INPUT: true; the input reads as it did. -/
def fnExactFromFixedSpec : ChangeSpec := { name := "fnExactFromFixed", fn := fun _ => fun
  | [d] => { results := [.lit (.bool true)], args := [d] }
  | _ => none }
def fnExactFromFixedRow : OpenClaim := { program := "ytabiacfangjbeaa", sum := "d9f33ea7fa84292930149a757bfb63613b77f3547b25d28cf9a0507cdaeb4311", func := "loop.example/g03326/laws.FnExactFromFixed", spec := "fnExactFromFixed", apart := false }
def FnExactFromFixedSaid : Prop := fnExactFromFixedRow.holds Try.pinned (OpenSpec.ofChange fnExactFromFixedSpec)

/-- ITS FALSE NEIGHBOUR: 'it returns false'. Refute it at one input. -/
def fnExactFromFixedWrong : ChangeSpec := { name := "fnExactFromFixed", fn := fun _ => fun
  | [d] => { results := [.lit (.bool false)], args := [d] }
  | _ => none }
def FnExactFromFixedWrongFalsely : Prop := fnExactFromFixedRow.holds Try.pinned (OpenSpec.ofChange fnExactFromFixedWrong)

/-- 'laws.FnExactToFixed': WHATEVER THE INPUT: true; the input reads as it did. -/
def fnExactToFixedSpec : ChangeSpec := { name := "fnExactToFixed", fn := fun _ => fun
  | [d] => { results := [.lit (.bool true)], args := [d] }
  | _ => none }
def fnExactToFixedRow : OpenClaim := { program := "ytabiacfangjbeaa", sum := "d9f33ea7fa84292930149a757bfb63613b77f3547b25d28cf9a0507cdaeb4311", func := "loop.example/g03326/laws.FnExactToFixed", spec := "fnExactToFixed", inPlace := ["math.Float64bits", "math.Float64frombits"], apart := false }
def FnExactToFixedSaid : Prop := fnExactToFixedRow.holds Try.pinned (OpenSpec.ofChange fnExactToFixedSpec)

/-- ITS FALSE NEIGHBOUR: 'it returns false'. Refute it at one input. -/
def fnExactToFixedWrong : ChangeSpec := { name := "fnExactToFixed", fn := fun _ => fun
  | [d] => { results := [.lit (.bool false)], args := [d] }
  | _ => none }
def FnExactToFixedWrongFalsely : Prop := fnExactToFixedRow.holds Try.pinned (OpenSpec.ofChange fnExactToFixedWrong)

/-- 'laws.FnFixedFloat': WHATEVER THE INPUT: true; the input reads as it did. -/
def fnFixedFloatSpec : ChangeSpec := { name := "fnFixedFloat", fn := fun _ => fun
  | [d] => { results := [.lit (.bool true)], args := [d] }
  | _ => none }
def fnFixedFloatRow : OpenClaim := { program := "ytabiacfangjbeaa", sum := "d9f33ea7fa84292930149a757bfb63613b77f3547b25d28cf9a0507cdaeb4311", func := "loop.example/g03326/laws.FnFixedFloat", spec := "fnFixedFloat", inPlace := ["math.Float64bits", "math.Float64frombits"], apart := false }
def FnFixedFloatSaid : Prop := fnFixedFloatRow.holds Try.pinned (OpenSpec.ofChange fnFixedFloatSpec)

/-- ITS FALSE NEIGHBOUR: 'it returns false'. Refute it at one input. -/
def fnFixedFloatWrong : ChangeSpec := { name := "fnFixedFloat", fn := fun _ => fun
  | [d] => { results := [.lit (.bool false)], args := [d] }
  | _ => none }
def FnFixedFloatWrongFalsely : Prop := fnFixedFloatRow.holds Try.pinned (OpenSpec.ofChange fnFixedFloatWrong)

/- THE SECOND FORM. 'bulk': how many values and letters a reading holds, each counted each time it is reached (what is shared counts as often as it is met; a slice's spare places count too). A statement '..UptoSaid' is the law's where the arguments, and the package variables that the reading takes, are together of bulk at most 1048576: NARROWER than '..Said'. Prove '..Said' where nothing that the law and all that it calls make is longer than what came in: it says more and counts as full. Else prove '..UptoSaid'. A law counts once. -/
mutual
def uptoBulk {H : Type} : DataW H → Nat
  | .lit (.string bytes) => bytes.length + 1
  | .lit _ => 1
  | .nil => 1
  | .ptr d => uptoBulk d + 1
  | .slice elems spare => uptoBulkAll elems + uptoBulkAll spare + 1
  | .agg parts => uptoBulkAll parts + 1
  | .iface _ d => uptoBulk d + 1
  | .map entries => uptoBulkEntries entries + 1
  | .held _ => 1
def uptoBulkAll {H : Type} : List (DataW H) → Nat
  | [] => 0
  | d :: r => uptoBulk d + uptoBulkAll r
def uptoBulkEntries {H : Type} : List (Lit × DataW H) → Nat
  | [] => 0
  | x :: r => uptoBulkEntry x + uptoBulkEntries r
def uptoBulkEntry {H : Type} : Lit × DataW H → Nat
  | (.string bytes, d) => bytes.length + uptoBulk d + 1
  | (_, d) => uptoBulk d + 1
 end
def uptoSmall : (H : Type) → List (DataW H) → Bool := fun _ ds => decide (uptoBulkAll ds ≤ 1048576)
def OpenSpec.upto (s : _root_.Go.ChangeSpec) : _root_.Go.OpenSpec := { _root_.Go.OpenSpec.ofChange s with cond := some uptoSmall }

/-- 'laws.FnExactFromFixed', WHERE WHAT IT READS IS OF BULK AT MOST 1048576: true; the input reads as it did. -/
def fnExactFromFixedUptoRow : OpenClaim := { program := "ytabiacfangjbeaa", sum := "d9f33ea7fa84292930149a757bfb63613b77f3547b25d28cf9a0507cdaeb4311", func := "loop.example/g03326/laws.FnExactFromFixed", spec := "fnExactFromFixed", apart := false, narrowed := true }
def FnExactFromFixedUptoSaid : Prop := fnExactFromFixedUptoRow.holds Try.pinned (OpenSpec.upto fnExactFromFixedSpec)

/-- 'laws.FnExactToFixed', WHERE WHAT IT READS IS OF BULK AT MOST 1048576: true; the input reads as it did. -/
def fnExactToFixedUptoRow : OpenClaim := { program := "ytabiacfangjbeaa", sum := "d9f33ea7fa84292930149a757bfb63613b77f3547b25d28cf9a0507cdaeb4311", func := "loop.example/g03326/laws.FnExactToFixed", spec := "fnExactToFixed", inPlace := ["math.Float64bits", "math.Float64frombits"], apart := false, narrowed := true }
def FnExactToFixedUptoSaid : Prop := fnExactToFixedUptoRow.holds Try.pinned (OpenSpec.upto fnExactToFixedSpec)

/-- 'laws.FnFixedFloat', WHERE WHAT IT READS IS OF BULK AT MOST 1048576: true; the input reads as it did. -/
def fnFixedFloatUptoRow : OpenClaim := { program := "ytabiacfangjbeaa", sum := "d9f33ea7fa84292930149a757bfb63613b77f3547b25d28cf9a0507cdaeb4311", func := "loop.example/g03326/laws.FnFixedFloat", spec := "fnFixedFloat", inPlace := ["math.Float64bits", "math.Float64frombits"], apart := false, narrowed := true }
def FnFixedFloatUptoSaid : Prop := fnFixedFloatUptoRow.holds Try.pinned (OpenSpec.upto fnFixedFloatSpec)

end Rows
end Go.Proofs.Ytabiacfangjbeaa
