/-
  No cell of these rows narrows 'for every input' (looked for: loops, veiled, ifaces, maps, wideKeys, modest, calm, conditions, laid).
  DERIVED. THE GIVEN ROWS OF THIS SEAT. 22 by the template 'for every input the law returns true; each argument reads behind the call as it read before'; 0 by the template 'total and deterministic' (their statements: YtbjllfnjecggfaaTotals.lean).
  GIVEN WITH THE SEED: the statements are not yours to turn. If you find one false, say at which input.
  Laid BY PROGRAM, IN A SANDBOX (cutbox-rows.mjs): the forced cells as the released guide's own fill.sh prints them over the translation b6c774dce0b016ef… (all of the seat's roots in one cut). By AI agents, Wed Nov 11 2026. No macro, syntax, notation, axiom, sorry.
-/
import Derived.Test.YtbjllfnjecggfaaChecked
import GoSem.Claim
import GoSem.ClaimJoined
import GoSem.ClaimMapViews
import Derived.JoinedTies
import Derived.KernelRfl
namespace Go.Proofs.Ytbjllfnjecggfaa
/- THE CELL 'sum', in the pinned program and in every row, IS THE sha256 OF THE DUMP (.gsa) THAT YtbjllfnjecggfaaProg.lean LOADS. Nothing in Lean hashes anything: it is a label: what it is worth is what the hold of that sum in a sandbox is worth. -/
noncomputable def Try.pinned : Pinned := { name := "ytbjllfnjecggfaa", sum := "b6c774dce0b016ef0480ef28dccc168ab9703aada7aed81c23c8d125d7418f55", checked := Try.checked }
namespace Rows
def none {H : Type} : Left H := { results := [], args := [] }

/-- 'laws.FnExactAddSamples': WHATEVER THE INPUT: true; the input reads as it did. -/
def fnExactAddSamplesSpec : ChangeSpec := { name := "fnExactAddSamples", fn := fun _ => fun
  | [d1, d2] => { results := [.lit (.bool true)], args := [d1, d2] }
  | _ => none }
def fnExactAddSamplesRow : OpenClaim := { program := "ytbjllfnjecggfaa", sum := "b6c774dce0b016ef0480ef28dccc168ab9703aada7aed81c23c8d125d7418f55", func := "loop.example/g03326/laws.FnExactAddSamples", spec := "fnExactAddSamples", apart := false }
def FnExactAddSamplesSaid : Prop := fnExactAddSamplesRow.holds Try.pinned (OpenSpec.ofChange fnExactAddSamplesSpec)

/-- ITS FALSE NEIGHBOUR: 'it returns false'. Refute it at one input. -/
def fnExactAddSamplesWrong : ChangeSpec := { name := "fnExactAddSamples", fn := fun _ => fun
  | [d1, d2] => { results := [.lit (.bool false)], args := [d1, d2] }
  | _ => none }
def FnExactAddSamplesWrongFalsely : Prop := fnExactAddSamplesRow.holds Try.pinned (OpenSpec.ofChange fnExactAddSamplesWrong)

/-- 'laws.FnExactLineOk': WHATEVER THE INPUT: true; the input reads as it did. -/
def fnExactLineOkSpec : ChangeSpec := { name := "fnExactLineOk", fn := fun _ => fun
  | [d] => { results := [.lit (.bool true)], args := [d] }
  | _ => none }
def fnExactLineOkRow : OpenClaim := { program := "ytbjllfnjecggfaa", sum := "b6c774dce0b016ef0480ef28dccc168ab9703aada7aed81c23c8d125d7418f55", func := "loop.example/g03326/laws.FnExactLineOk", spec := "fnExactLineOk", unfollowed := true, recurses := true, apart := false }
def FnExactLineOkSaid : Prop := fnExactLineOkRow.holds Try.pinned (OpenSpec.ofChange fnExactLineOkSpec)

/-- ITS FALSE NEIGHBOUR: 'it returns false'. Refute it at one input. -/
def fnExactLineOkWrong : ChangeSpec := { name := "fnExactLineOk", fn := fun _ => fun
  | [d] => { results := [.lit (.bool false)], args := [d] }
  | _ => none }
def FnExactLineOkWrongFalsely : Prop := fnExactLineOkRow.holds Try.pinned (OpenSpec.ofChange fnExactLineOkWrong)

/-- 'laws.FnExactDelay': WHATEVER THE INPUT: true; the input reads as it did. -/
def fnExactDelaySpec : ChangeSpec := { name := "fnExactDelay", fn := fun _ => fun
  | [d1, d2] => { results := [.lit (.bool true)], args := [d1, d2] }
  | _ => none }
def fnExactDelayRow : OpenClaim := { program := "ytbjllfnjecggfaa", sum := "b6c774dce0b016ef0480ef28dccc168ab9703aada7aed81c23c8d125d7418f55", func := "loop.example/g03326/laws.FnExactDelay", spec := "fnExactDelay", apart := false }
def FnExactDelaySaid : Prop := fnExactDelayRow.holds Try.pinned (OpenSpec.ofChange fnExactDelaySpec)

/-- ITS FALSE NEIGHBOUR: 'it returns false'. Refute it at one input. -/
def fnExactDelayWrong : ChangeSpec := { name := "fnExactDelay", fn := fun _ => fun
  | [d1, d2] => { results := [.lit (.bool false)], args := [d1, d2] }
  | _ => none }
def FnExactDelayWrongFalsely : Prop := fnExactDelayRow.holds Try.pinned (OpenSpec.ofChange fnExactDelayWrong)

/-- 'laws.FnCarrierTurns': WHATEVER THE INPUT: true; the input reads as it did. -/
def fnCarrierTurnsSpec : ChangeSpec := { name := "fnCarrierTurns", fn := fun _ => fun
  | [d] => { results := [.lit (.bool true)], args := [d] }
  | _ => none }
def fnCarrierTurnsRow : OpenClaim := { program := "ytbjllfnjecggfaa", sum := "b6c774dce0b016ef0480ef28dccc168ab9703aada7aed81c23c8d125d7418f55", func := "loop.example/g03326/laws.FnCarrierTurns", spec := "fnCarrierTurns", apart := false }
def FnCarrierTurnsSaid : Prop := fnCarrierTurnsRow.holds Try.pinned (OpenSpec.ofChange fnCarrierTurnsSpec)

/-- ITS FALSE NEIGHBOUR: 'it returns false'. Refute it at one input. -/
def fnCarrierTurnsWrong : ChangeSpec := { name := "fnCarrierTurns", fn := fun _ => fun
  | [d] => { results := [.lit (.bool false)], args := [d] }
  | _ => none }
def FnCarrierTurnsWrongFalsely : Prop := fnCarrierTurnsRow.holds Try.pinned (OpenSpec.ofChange fnCarrierTurnsWrong)

/-- 'laws.FnExactBurstOf': WHATEVER THE INPUT: true; the input reads as it did. -/
def fnExactBurstOfSpec : ChangeSpec := { name := "fnExactBurstOf", fn := fun _ => fun
  | [d] => { results := [.lit (.bool true)], args := [d] }
  | _ => none }
def fnExactBurstOfRow : OpenClaim := { program := "ytbjllfnjecggfaa", sum := "b6c774dce0b016ef0480ef28dccc168ab9703aada7aed81c23c8d125d7418f55", func := "loop.example/g03326/laws.FnExactBurstOf", spec := "fnExactBurstOf", unfollowed := true, recurses := true, apart := false }
def FnExactBurstOfSaid : Prop := fnExactBurstOfRow.holds Try.pinned (OpenSpec.ofChange fnExactBurstOfSpec)

/-- ITS FALSE NEIGHBOUR: 'it returns false'. Refute it at one input. -/
def fnExactBurstOfWrong : ChangeSpec := { name := "fnExactBurstOf", fn := fun _ => fun
  | [d] => { results := [.lit (.bool false)], args := [d] }
  | _ => none }
def FnExactBurstOfWrongFalsely : Prop := fnExactBurstOfRow.holds Try.pinned (OpenSpec.ofChange fnExactBurstOfWrong)

/-- 'laws.FnExactCellsOf': WHATEVER THE INPUT: true; the input reads as it did. -/
def fnExactCellsOfSpec : ChangeSpec := { name := "fnExactCellsOf", fn := fun _ => fun
  | [d] => { results := [.lit (.bool true)], args := [d] }
  | _ => none }
def fnExactCellsOfRow : OpenClaim := { program := "ytbjllfnjecggfaa", sum := "b6c774dce0b016ef0480ef28dccc168ab9703aada7aed81c23c8d125d7418f55", func := "loop.example/g03326/laws.FnExactCellsOf", spec := "fnExactCellsOf", unfollowed := true, recurses := true, apart := false }
def FnExactCellsOfSaid : Prop := fnExactCellsOfRow.holds Try.pinned (OpenSpec.ofChange fnExactCellsOfSpec)

/-- ITS FALSE NEIGHBOUR: 'it returns false'. Refute it at one input. -/
def fnExactCellsOfWrong : ChangeSpec := { name := "fnExactCellsOf", fn := fun _ => fun
  | [d] => { results := [.lit (.bool false)], args := [d] }
  | _ => none }
def FnExactCellsOfWrongFalsely : Prop := fnExactCellsOfRow.holds Try.pinned (OpenSpec.ofChange fnExactCellsOfWrong)

/-- 'laws.FnExactPulseOf': WHATEVER THE INPUT: true; the input reads as it did. -/
def fnExactPulseOfSpec : ChangeSpec := { name := "fnExactPulseOf", fn := fun _ => fun
  | [d] => { results := [.lit (.bool true)], args := [d] }
  | _ => none }
def fnExactPulseOfRow : OpenClaim := { program := "ytbjllfnjecggfaa", sum := "b6c774dce0b016ef0480ef28dccc168ab9703aada7aed81c23c8d125d7418f55", func := "loop.example/g03326/laws.FnExactPulseOf", spec := "fnExactPulseOf", unfollowed := true, recurses := true, apart := false }
def FnExactPulseOfSaid : Prop := fnExactPulseOfRow.holds Try.pinned (OpenSpec.ofChange fnExactPulseOfSpec)

/-- ITS FALSE NEIGHBOUR: 'it returns false'. Refute it at one input. -/
def fnExactPulseOfWrong : ChangeSpec := { name := "fnExactPulseOf", fn := fun _ => fun
  | [d] => { results := [.lit (.bool false)], args := [d] }
  | _ => none }
def FnExactPulseOfWrongFalsely : Prop := fnExactPulseOfRow.holds Try.pinned (OpenSpec.ofChange fnExactPulseOfWrong)

/-- 'laws.FnExactBrightness': WHATEVER THE INPUT: true; the input reads as it did. -/
def fnExactBrightnessSpec : ChangeSpec := { name := "fnExactBrightness", fn := fun _ => fun
  | [d] => { results := [.lit (.bool true)], args := [d] }
  | _ => none }
def fnExactBrightnessRow : OpenClaim := { program := "ytbjllfnjecggfaa", sum := "b6c774dce0b016ef0480ef28dccc168ab9703aada7aed81c23c8d125d7418f55", func := "loop.example/g03326/laws.FnExactBrightness", spec := "fnExactBrightness", unfollowed := true, recurses := true, apart := false }
def FnExactBrightnessSaid : Prop := fnExactBrightnessRow.holds Try.pinned (OpenSpec.ofChange fnExactBrightnessSpec)

/-- ITS FALSE NEIGHBOUR: 'it returns false'. Refute it at one input. -/
def fnExactBrightnessWrong : ChangeSpec := { name := "fnExactBrightness", fn := fun _ => fun
  | [d] => { results := [.lit (.bool false)], args := [d] }
  | _ => none }
def FnExactBrightnessWrongFalsely : Prop := fnExactBrightnessRow.holds Try.pinned (OpenSpec.ofChange fnExactBrightnessWrong)

/-- 'laws.FnTakenApart': WHATEVER THE INPUT: true; the input reads as it did. -/
def fnTakenApartSpec : ChangeSpec := { name := "fnTakenApart", fn := fun _ => fun
  | [d] => { results := [.lit (.bool true)], args := [d] }
  | _ => none }
def fnTakenApartRow : OpenClaim := { program := "ytbjllfnjecggfaa", sum := "b6c774dce0b016ef0480ef28dccc168ab9703aada7aed81c23c8d125d7418f55", func := "loop.example/g03326/laws.FnTakenApart", spec := "fnTakenApart", unfollowed := true, recurses := true, apart := false }
def FnTakenApartSaid : Prop := fnTakenApartRow.holds Try.pinned (OpenSpec.ofChange fnTakenApartSpec)

/-- ITS FALSE NEIGHBOUR: 'it returns false'. Refute it at one input. -/
def fnTakenApartWrong : ChangeSpec := { name := "fnTakenApart", fn := fun _ => fun
  | [d] => { results := [.lit (.bool false)], args := [d] }
  | _ => none }
def FnTakenApartWrongFalsely : Prop := fnTakenApartRow.holds Try.pinned (OpenSpec.ofChange fnTakenApartWrong)

/-- 'laws.FnTwoParts': WHATEVER THE INPUT: true; the input reads as it did. -/
def fnTwoPartsSpec : ChangeSpec := { name := "fnTwoParts", fn := fun _ => fun
  | [d] => { results := [.lit (.bool true)], args := [d] }
  | _ => none }
def fnTwoPartsRow : OpenClaim := { program := "ytbjllfnjecggfaa", sum := "b6c774dce0b016ef0480ef28dccc168ab9703aada7aed81c23c8d125d7418f55", func := "loop.example/g03326/laws.FnTwoParts", spec := "fnTwoParts", unfollowed := true, recurses := true, apart := false }
def FnTwoPartsSaid : Prop := fnTwoPartsRow.holds Try.pinned (OpenSpec.ofChange fnTwoPartsSpec)

/-- ITS FALSE NEIGHBOUR: 'it returns false'. Refute it at one input. -/
def fnTwoPartsWrong : ChangeSpec := { name := "fnTwoParts", fn := fun _ => fun
  | [d] => { results := [.lit (.bool false)], args := [d] }
  | _ => none }
def FnTwoPartsWrongFalsely : Prop := fnTwoPartsRow.holds Try.pinned (OpenSpec.ofChange fnTwoPartsWrong)

/-- 'laws.FnExactDecodeCells': WHATEVER THE INPUT: true; the input reads as it did. -/
def fnExactDecodeCellsSpec : ChangeSpec := { name := "fnExactDecodeCells", fn := fun _ => fun
  | [d1, d2] => { results := [.lit (.bool true)], args := [d1, d2] }
  | _ => none }
def fnExactDecodeCellsRow : OpenClaim := { program := "ytbjllfnjecggfaa", sum := "b6c774dce0b016ef0480ef28dccc168ab9703aada7aed81c23c8d125d7418f55", func := "loop.example/g03326/laws.FnExactDecodeCells", spec := "fnExactDecodeCells", unfollowed := true, recurses := true, apart := false }
def FnExactDecodeCellsSaid : Prop := fnExactDecodeCellsRow.holds Try.pinned (OpenSpec.ofChange fnExactDecodeCellsSpec)

/-- ITS FALSE NEIGHBOUR: 'it returns false'. Refute it at one input. -/
def fnExactDecodeCellsWrong : ChangeSpec := { name := "fnExactDecodeCells", fn := fun _ => fun
  | [d1, d2] => { results := [.lit (.bool false)], args := [d1, d2] }
  | _ => none }
def FnExactDecodeCellsWrongFalsely : Prop := fnExactDecodeCellsRow.holds Try.pinned (OpenSpec.ofChange fnExactDecodeCellsWrong)

/-- 'laws.FnExactColouring': WHATEVER THE INPUT: true; the input reads as it did. -/
def fnExactColouringSpec : ChangeSpec := { name := "fnExactColouring", fn := fun _ => fun
  | [d] => { results := [.lit (.bool true)], args := [d] }
  | _ => none }
def fnExactColouringRow : OpenClaim := { program := "ytbjllfnjecggfaa", sum := "b6c774dce0b016ef0480ef28dccc168ab9703aada7aed81c23c8d125d7418f55", func := "loop.example/g03326/laws.FnExactColouring", spec := "fnExactColouring", unfollowed := true, recurses := true, apart := false }
def FnExactColouringSaid : Prop := fnExactColouringRow.holds Try.pinned (OpenSpec.ofChange fnExactColouringSpec)

/-- ITS FALSE NEIGHBOUR: 'it returns false'. Refute it at one input. -/
def fnExactColouringWrong : ChangeSpec := { name := "fnExactColouring", fn := fun _ => fun
  | [d] => { results := [.lit (.bool false)], args := [d] }
  | _ => none }
def FnExactColouringWrongFalsely : Prop := fnExactColouringRow.holds Try.pinned (OpenSpec.ofChange fnExactColouringWrong)

/-- 'laws.FnConjTwice': WHATEVER THE INPUT: true; the input reads as it did. -/
def fnConjTwiceSpec : ChangeSpec := { name := "fnConjTwice", fn := fun _ => fun
  | [d] => { results := [.lit (.bool true)], args := [d] }
  | _ => none }
def fnConjTwiceRow : OpenClaim := { program := "ytbjllfnjecggfaa", sum := "b6c774dce0b016ef0480ef28dccc168ab9703aada7aed81c23c8d125d7418f55", func := "loop.example/g03326/laws.FnConjTwice", spec := "fnConjTwice", unfollowed := true, recurses := true, apart := false }
def FnConjTwiceSaid : Prop := fnConjTwiceRow.holds Try.pinned (OpenSpec.ofChange fnConjTwiceSpec)

/-- ITS FALSE NEIGHBOUR: 'it returns false'. Refute it at one input. -/
def fnConjTwiceWrong : ChangeSpec := { name := "fnConjTwice", fn := fun _ => fun
  | [d] => { results := [.lit (.bool false)], args := [d] }
  | _ => none }
def FnConjTwiceWrongFalsely : Prop := fnConjTwiceRow.holds Try.pinned (OpenSpec.ofChange fnConjTwiceWrong)

/-- 'laws.FnMeanSelf': WHATEVER THE INPUT: true; the input reads as it did. -/
def fnMeanSelfSpec : ChangeSpec := { name := "fnMeanSelf", fn := fun _ => fun
  | [d] => { results := [.lit (.bool true)], args := [d] }
  | _ => none }
def fnMeanSelfRow : OpenClaim := { program := "ytbjllfnjecggfaa", sum := "b6c774dce0b016ef0480ef28dccc168ab9703aada7aed81c23c8d125d7418f55", func := "loop.example/g03326/laws.FnMeanSelf", spec := "fnMeanSelf", unfollowed := true, recurses := true, apart := false }
def FnMeanSelfSaid : Prop := fnMeanSelfRow.holds Try.pinned (OpenSpec.ofChange fnMeanSelfSpec)

/-- ITS FALSE NEIGHBOUR: 'it returns false'. Refute it at one input. -/
def fnMeanSelfWrong : ChangeSpec := { name := "fnMeanSelf", fn := fun _ => fun
  | [d] => { results := [.lit (.bool false)], args := [d] }
  | _ => none }
def FnMeanSelfWrongFalsely : Prop := fnMeanSelfRow.holds Try.pinned (OpenSpec.ofChange fnMeanSelfWrong)

/-- 'laws.FnDelayed': WHATEVER THE INPUT: true; the input reads as it did. -/
def fnDelayedSpec : ChangeSpec := { name := "fnDelayed", fn := fun _ => fun
  | [d] => { results := [.lit (.bool true)], args := [d] }
  | _ => none }
def fnDelayedRow : OpenClaim := { program := "ytbjllfnjecggfaa", sum := "b6c774dce0b016ef0480ef28dccc168ab9703aada7aed81c23c8d125d7418f55", func := "loop.example/g03326/laws.FnDelayed", spec := "fnDelayed", apart := false }
def FnDelayedSaid : Prop := fnDelayedRow.holds Try.pinned (OpenSpec.ofChange fnDelayedSpec)

/-- ITS FALSE NEIGHBOUR: 'it returns false'. Refute it at one input. -/
def fnDelayedWrong : ChangeSpec := { name := "fnDelayed", fn := fun _ => fun
  | [d] => { results := [.lit (.bool false)], args := [d] }
  | _ => none }
def FnDelayedWrongFalsely : Prop := fnDelayedRow.holds Try.pinned (OpenSpec.ofChange fnDelayedWrong)

/-- 'laws.FnExactBurstColour': WHATEVER THE INPUT: true; the input reads as it did. -/
def fnExactBurstColourSpec : ChangeSpec := { name := "fnExactBurstColour", fn := fun _ => fun
  | [d] => { results := [.lit (.bool true)], args := [d] }
  | _ => none }
def fnExactBurstColourRow : OpenClaim := { program := "ytbjllfnjecggfaa", sum := "b6c774dce0b016ef0480ef28dccc168ab9703aada7aed81c23c8d125d7418f55", func := "loop.example/g03326/laws.FnExactBurstColour", spec := "fnExactBurstColour", unfollowed := true, recurses := true, apart := false }
def FnExactBurstColourSaid : Prop := fnExactBurstColourRow.holds Try.pinned (OpenSpec.ofChange fnExactBurstColourSpec)

/-- ITS FALSE NEIGHBOUR: 'it returns false'. Refute it at one input. -/
def fnExactBurstColourWrong : ChangeSpec := { name := "fnExactBurstColour", fn := fun _ => fun
  | [d] => { results := [.lit (.bool false)], args := [d] }
  | _ => none }
def FnExactBurstColourWrongFalsely : Prop := fnExactBurstColourRow.holds Try.pinned (OpenSpec.ofChange fnExactBurstColourWrong)

/-- 'laws.FnOddConjugate': WHATEVER THE INPUT: true; the input reads as it did. -/
def fnOddConjugateSpec : ChangeSpec := { name := "fnOddConjugate", fn := fun _ => fun
  | [d] => { results := [.lit (.bool true)], args := [d] }
  | _ => none }
def fnOddConjugateRow : OpenClaim := { program := "ytbjllfnjecggfaa", sum := "b6c774dce0b016ef0480ef28dccc168ab9703aada7aed81c23c8d125d7418f55", func := "loop.example/g03326/laws.FnOddConjugate", spec := "fnOddConjugate", unfollowed := true, recurses := true, apart := false }
def FnOddConjugateSaid : Prop := fnOddConjugateRow.holds Try.pinned (OpenSpec.ofChange fnOddConjugateSpec)

/-- ITS FALSE NEIGHBOUR: 'it returns false'. Refute it at one input. -/
def fnOddConjugateWrong : ChangeSpec := { name := "fnOddConjugate", fn := fun _ => fun
  | [d] => { results := [.lit (.bool false)], args := [d] }
  | _ => none }
def FnOddConjugateWrongFalsely : Prop := fnOddConjugateRow.holds Try.pinned (OpenSpec.ofChange fnOddConjugateWrong)

/-- 'laws.FnPaired': WHATEVER THE INPUT: true; the input reads as it did. -/
def fnPairedSpec : ChangeSpec := { name := "fnPaired", fn := fun _ => fun
  | [d] => { results := [.lit (.bool true)], args := [d] }
  | _ => none }
def fnPairedRow : OpenClaim := { program := "ytbjllfnjecggfaa", sum := "b6c774dce0b016ef0480ef28dccc168ab9703aada7aed81c23c8d125d7418f55", func := "loop.example/g03326/laws.FnPaired", spec := "fnPaired", unfollowed := true, recurses := true, apart := false }
def FnPairedSaid : Prop := fnPairedRow.holds Try.pinned (OpenSpec.ofChange fnPairedSpec)

/-- ITS FALSE NEIGHBOUR: 'it returns false'. Refute it at one input. -/
def fnPairedWrong : ChangeSpec := { name := "fnPaired", fn := fun _ => fun
  | [d] => { results := [.lit (.bool false)], args := [d] }
  | _ => none }
def FnPairedWrongFalsely : Prop := fnPairedRow.holds Try.pinned (OpenSpec.ofChange fnPairedWrong)

/-- 'laws.FnExactHueGain': WHATEVER THE INPUT: true; the input reads as it did. -/
def fnExactHueGainSpec : ChangeSpec := { name := "fnExactHueGain", fn := fun _ => fun
  | [d1, d2] => { results := [.lit (.bool true)], args := [d1, d2] }
  | _ => none }
def fnExactHueGainRow : OpenClaim := { program := "ytbjllfnjecggfaa", sum := "b6c774dce0b016ef0480ef28dccc168ab9703aada7aed81c23c8d125d7418f55", func := "loop.example/g03326/laws.FnExactHueGain", spec := "fnExactHueGain", unfollowed := true, recurses := true, apart := false }
def FnExactHueGainSaid : Prop := fnExactHueGainRow.holds Try.pinned (OpenSpec.ofChange fnExactHueGainSpec)

/-- ITS FALSE NEIGHBOUR: 'it returns false'. Refute it at one input. -/
def fnExactHueGainWrong : ChangeSpec := { name := "fnExactHueGain", fn := fun _ => fun
  | [d1, d2] => { results := [.lit (.bool false)], args := [d1, d2] }
  | _ => none }
def FnExactHueGainWrongFalsely : Prop := fnExactHueGainRow.holds Try.pinned (OpenSpec.ofChange fnExactHueGainWrong)

/-- 'laws.FnFieldsWoven': WHATEVER THE INPUT: true; the input reads as it did. -/
def fnFieldsWovenSpec : ChangeSpec := { name := "fnFieldsWoven", fn := fun _ => fun
  | [d] => { results := [.lit (.bool true)], args := [d] }
  | _ => none }
def fnFieldsWovenRow : OpenClaim := { program := "ytbjllfnjecggfaa", sum := "b6c774dce0b016ef0480ef28dccc168ab9703aada7aed81c23c8d125d7418f55", func := "loop.example/g03326/laws.FnFieldsWoven", spec := "fnFieldsWoven", unfollowed := true, recurses := true, apart := false }
def FnFieldsWovenSaid : Prop := fnFieldsWovenRow.holds Try.pinned (OpenSpec.ofChange fnFieldsWovenSpec)

/-- ITS FALSE NEIGHBOUR: 'it returns false'. Refute it at one input. -/
def fnFieldsWovenWrong : ChangeSpec := { name := "fnFieldsWoven", fn := fun _ => fun
  | [d] => { results := [.lit (.bool false)], args := [d] }
  | _ => none }
def FnFieldsWovenWrongFalsely : Prop := fnFieldsWovenRow.holds Try.pinned (OpenSpec.ofChange fnFieldsWovenWrong)

/-- 'laws.FnExactSwing': WHATEVER THE INPUT: true; the input reads as it did. -/
def fnExactSwingSpec : ChangeSpec := { name := "fnExactSwing", fn := fun _ => fun
  | [d1, d2] => { results := [.lit (.bool true)], args := [d1, d2] }
  | _ => none }
def fnExactSwingRow : OpenClaim := { program := "ytbjllfnjecggfaa", sum := "b6c774dce0b016ef0480ef28dccc168ab9703aada7aed81c23c8d125d7418f55", func := "loop.example/g03326/laws.FnExactSwing", spec := "fnExactSwing", unfollowed := true, recurses := true, apart := false }
def FnExactSwingSaid : Prop := fnExactSwingRow.holds Try.pinned (OpenSpec.ofChange fnExactSwingSpec)

/-- ITS FALSE NEIGHBOUR: 'it returns false'. Refute it at one input. -/
def fnExactSwingWrong : ChangeSpec := { name := "fnExactSwing", fn := fun _ => fun
  | [d1, d2] => { results := [.lit (.bool false)], args := [d1, d2] }
  | _ => none }
def FnExactSwingWrongFalsely : Prop := fnExactSwingRow.holds Try.pinned (OpenSpec.ofChange fnExactSwingWrong)

/-- 'laws.FnExactCarrier': WHATEVER THE INPUT: true; the input reads as it did. -/
def fnExactCarrierSpec : ChangeSpec := { name := "fnExactCarrier", fn := fun _ => fun
  | [d] => { results := [.lit (.bool true)], args := [d] }
  | _ => none }
def fnExactCarrierRow : OpenClaim := { program := "ytbjllfnjecggfaa", sum := "b6c774dce0b016ef0480ef28dccc168ab9703aada7aed81c23c8d125d7418f55", func := "loop.example/g03326/laws.FnExactCarrier", spec := "fnExactCarrier", apart := false }
def FnExactCarrierSaid : Prop := fnExactCarrierRow.holds Try.pinned (OpenSpec.ofChange fnExactCarrierSpec)

/-- ITS FALSE NEIGHBOUR: 'it returns false'. Refute it at one input. -/
def fnExactCarrierWrong : ChangeSpec := { name := "fnExactCarrier", fn := fun _ => fun
  | [d] => { results := [.lit (.bool false)], args := [d] }
  | _ => none }
def FnExactCarrierWrongFalsely : Prop := fnExactCarrierRow.holds Try.pinned (OpenSpec.ofChange fnExactCarrierWrong)

/- THE SECOND FORM. 'bulk': how many values and letters a reading holds, each counted each time it is reached (what is shared counts as often as it is met; a slice's spare places count too). A statement '..UptoSaid' is the law's where the arguments, and the package variables that the reading takes, are together of bulk at most 1048576: NARROWER than '..Said'. Prove '..Said' where nothing that the law and all that it calls make is longer than what came in: it says more and counts as full. Else prove '..UptoSaid'. A law counts once. -/
mutual
def uptoBulk {H : Type} : DataW H → Nat
  | .lit (.string bytes) => bytes.length + 1
  | .lit _ => 1
  | .nil => 1
  | .ptr d => uptoBulk d + 1
  | .slice elems spare => uptoBulkAll elems + uptoBulkAll spare + 1
  | .agg parts => uptoBulkAll parts + 1
  | .iface _ d => uptoBulk d + 1
  | .map entries => uptoBulkEntries entries + 1
  | .held _ => 1
def uptoBulkAll {H : Type} : List (DataW H) → Nat
  | [] => 0
  | d :: r => uptoBulk d + uptoBulkAll r
def uptoBulkEntries {H : Type} : List (Lit × DataW H) → Nat
  | [] => 0
  | x :: r => uptoBulkEntry x + uptoBulkEntries r
def uptoBulkEntry {H : Type} : Lit × DataW H → Nat
  | (.string bytes, d) => bytes.length + uptoBulk d + 1
  | (_, d) => uptoBulk d + 1
 end
def uptoSmall : (H : Type) → List (DataW H) → Bool := fun _ ds => decide (uptoBulkAll ds ≤ 1048576)
def OpenSpec.upto (s : _root_.Go.ChangeSpec) : _root_.Go.OpenSpec := { _root_.Go.OpenSpec.ofChange s with cond := some uptoSmall }

/-- 'laws.FnExactAddSamples', WHERE WHAT IT READS IS OF BULK AT MOST 1048576: true; the input reads as it did. -/
def fnExactAddSamplesUptoRow : OpenClaim := { program := "ytbjllfnjecggfaa", sum := "b6c774dce0b016ef0480ef28dccc168ab9703aada7aed81c23c8d125d7418f55", func := "loop.example/g03326/laws.FnExactAddSamples", spec := "fnExactAddSamples", apart := false, narrowed := true }
def FnExactAddSamplesUptoSaid : Prop := fnExactAddSamplesUptoRow.holds Try.pinned (OpenSpec.upto fnExactAddSamplesSpec)

/-- 'laws.FnExactLineOk', WHERE WHAT IT READS IS OF BULK AT MOST 1048576: true; the input reads as it did. -/
def fnExactLineOkUptoRow : OpenClaim := { program := "ytbjllfnjecggfaa", sum := "b6c774dce0b016ef0480ef28dccc168ab9703aada7aed81c23c8d125d7418f55", func := "loop.example/g03326/laws.FnExactLineOk", spec := "fnExactLineOk", unfollowed := true, recurses := true, apart := false, narrowed := true }
def FnExactLineOkUptoSaid : Prop := fnExactLineOkUptoRow.holds Try.pinned (OpenSpec.upto fnExactLineOkSpec)

/-- 'laws.FnExactDelay', WHERE WHAT IT READS IS OF BULK AT MOST 1048576: true; the input reads as it did. -/
def fnExactDelayUptoRow : OpenClaim := { program := "ytbjllfnjecggfaa", sum := "b6c774dce0b016ef0480ef28dccc168ab9703aada7aed81c23c8d125d7418f55", func := "loop.example/g03326/laws.FnExactDelay", spec := "fnExactDelay", apart := false, narrowed := true }
def FnExactDelayUptoSaid : Prop := fnExactDelayUptoRow.holds Try.pinned (OpenSpec.upto fnExactDelaySpec)

/-- 'laws.FnCarrierTurns', WHERE WHAT IT READS IS OF BULK AT MOST 1048576: true; the input reads as it did. -/
def fnCarrierTurnsUptoRow : OpenClaim := { program := "ytbjllfnjecggfaa", sum := "b6c774dce0b016ef0480ef28dccc168ab9703aada7aed81c23c8d125d7418f55", func := "loop.example/g03326/laws.FnCarrierTurns", spec := "fnCarrierTurns", apart := false, narrowed := true }
def FnCarrierTurnsUptoSaid : Prop := fnCarrierTurnsUptoRow.holds Try.pinned (OpenSpec.upto fnCarrierTurnsSpec)

/-- 'laws.FnExactBurstOf', WHERE WHAT IT READS IS OF BULK AT MOST 1048576: true; the input reads as it did. -/
def fnExactBurstOfUptoRow : OpenClaim := { program := "ytbjllfnjecggfaa", sum := "b6c774dce0b016ef0480ef28dccc168ab9703aada7aed81c23c8d125d7418f55", func := "loop.example/g03326/laws.FnExactBurstOf", spec := "fnExactBurstOf", unfollowed := true, recurses := true, apart := false, narrowed := true }
def FnExactBurstOfUptoSaid : Prop := fnExactBurstOfUptoRow.holds Try.pinned (OpenSpec.upto fnExactBurstOfSpec)

/-- 'laws.FnExactCellsOf', WHERE WHAT IT READS IS OF BULK AT MOST 1048576: true; the input reads as it did. -/
def fnExactCellsOfUptoRow : OpenClaim := { program := "ytbjllfnjecggfaa", sum := "b6c774dce0b016ef0480ef28dccc168ab9703aada7aed81c23c8d125d7418f55", func := "loop.example/g03326/laws.FnExactCellsOf", spec := "fnExactCellsOf", unfollowed := true, recurses := true, apart := false, narrowed := true }
def FnExactCellsOfUptoSaid : Prop := fnExactCellsOfUptoRow.holds Try.pinned (OpenSpec.upto fnExactCellsOfSpec)

/-- 'laws.FnExactPulseOf', WHERE WHAT IT READS IS OF BULK AT MOST 1048576: true; the input reads as it did. -/
def fnExactPulseOfUptoRow : OpenClaim := { program := "ytbjllfnjecggfaa", sum := "b6c774dce0b016ef0480ef28dccc168ab9703aada7aed81c23c8d125d7418f55", func := "loop.example/g03326/laws.FnExactPulseOf", spec := "fnExactPulseOf", unfollowed := true, recurses := true, apart := false, narrowed := true }
def FnExactPulseOfUptoSaid : Prop := fnExactPulseOfUptoRow.holds Try.pinned (OpenSpec.upto fnExactPulseOfSpec)

/-- 'laws.FnExactBrightness', WHERE WHAT IT READS IS OF BULK AT MOST 1048576: true; the input reads as it did. -/
def fnExactBrightnessUptoRow : OpenClaim := { program := "ytbjllfnjecggfaa", sum := "b6c774dce0b016ef0480ef28dccc168ab9703aada7aed81c23c8d125d7418f55", func := "loop.example/g03326/laws.FnExactBrightness", spec := "fnExactBrightness", unfollowed := true, recurses := true, apart := false, narrowed := true }
def FnExactBrightnessUptoSaid : Prop := fnExactBrightnessUptoRow.holds Try.pinned (OpenSpec.upto fnExactBrightnessSpec)

/-- 'laws.FnTakenApart', WHERE WHAT IT READS IS OF BULK AT MOST 1048576: true; the input reads as it did. -/
def fnTakenApartUptoRow : OpenClaim := { program := "ytbjllfnjecggfaa", sum := "b6c774dce0b016ef0480ef28dccc168ab9703aada7aed81c23c8d125d7418f55", func := "loop.example/g03326/laws.FnTakenApart", spec := "fnTakenApart", unfollowed := true, recurses := true, apart := false, narrowed := true }
def FnTakenApartUptoSaid : Prop := fnTakenApartUptoRow.holds Try.pinned (OpenSpec.upto fnTakenApartSpec)

/-- 'laws.FnTwoParts', WHERE WHAT IT READS IS OF BULK AT MOST 1048576: true; the input reads as it did. -/
def fnTwoPartsUptoRow : OpenClaim := { program := "ytbjllfnjecggfaa", sum := "b6c774dce0b016ef0480ef28dccc168ab9703aada7aed81c23c8d125d7418f55", func := "loop.example/g03326/laws.FnTwoParts", spec := "fnTwoParts", unfollowed := true, recurses := true, apart := false, narrowed := true }
def FnTwoPartsUptoSaid : Prop := fnTwoPartsUptoRow.holds Try.pinned (OpenSpec.upto fnTwoPartsSpec)

/-- 'laws.FnExactDecodeCells', WHERE WHAT IT READS IS OF BULK AT MOST 1048576: true; the input reads as it did. -/
def fnExactDecodeCellsUptoRow : OpenClaim := { program := "ytbjllfnjecggfaa", sum := "b6c774dce0b016ef0480ef28dccc168ab9703aada7aed81c23c8d125d7418f55", func := "loop.example/g03326/laws.FnExactDecodeCells", spec := "fnExactDecodeCells", unfollowed := true, recurses := true, apart := false, narrowed := true }
def FnExactDecodeCellsUptoSaid : Prop := fnExactDecodeCellsUptoRow.holds Try.pinned (OpenSpec.upto fnExactDecodeCellsSpec)

/-- 'laws.FnExactColouring', WHERE WHAT IT READS IS OF BULK AT MOST 1048576: true; the input reads as it did. -/
def fnExactColouringUptoRow : OpenClaim := { program := "ytbjllfnjecggfaa", sum := "b6c774dce0b016ef0480ef28dccc168ab9703aada7aed81c23c8d125d7418f55", func := "loop.example/g03326/laws.FnExactColouring", spec := "fnExactColouring", unfollowed := true, recurses := true, apart := false, narrowed := true }
def FnExactColouringUptoSaid : Prop := fnExactColouringUptoRow.holds Try.pinned (OpenSpec.upto fnExactColouringSpec)

/-- 'laws.FnConjTwice', WHERE WHAT IT READS IS OF BULK AT MOST 1048576: true; the input reads as it did. -/
def fnConjTwiceUptoRow : OpenClaim := { program := "ytbjllfnjecggfaa", sum := "b6c774dce0b016ef0480ef28dccc168ab9703aada7aed81c23c8d125d7418f55", func := "loop.example/g03326/laws.FnConjTwice", spec := "fnConjTwice", unfollowed := true, recurses := true, apart := false, narrowed := true }
def FnConjTwiceUptoSaid : Prop := fnConjTwiceUptoRow.holds Try.pinned (OpenSpec.upto fnConjTwiceSpec)

/-- 'laws.FnMeanSelf', WHERE WHAT IT READS IS OF BULK AT MOST 1048576: true; the input reads as it did. -/
def fnMeanSelfUptoRow : OpenClaim := { program := "ytbjllfnjecggfaa", sum := "b6c774dce0b016ef0480ef28dccc168ab9703aada7aed81c23c8d125d7418f55", func := "loop.example/g03326/laws.FnMeanSelf", spec := "fnMeanSelf", unfollowed := true, recurses := true, apart := false, narrowed := true }
def FnMeanSelfUptoSaid : Prop := fnMeanSelfUptoRow.holds Try.pinned (OpenSpec.upto fnMeanSelfSpec)

/-- 'laws.FnDelayed', WHERE WHAT IT READS IS OF BULK AT MOST 1048576: true; the input reads as it did. -/
def fnDelayedUptoRow : OpenClaim := { program := "ytbjllfnjecggfaa", sum := "b6c774dce0b016ef0480ef28dccc168ab9703aada7aed81c23c8d125d7418f55", func := "loop.example/g03326/laws.FnDelayed", spec := "fnDelayed", apart := false, narrowed := true }
def FnDelayedUptoSaid : Prop := fnDelayedUptoRow.holds Try.pinned (OpenSpec.upto fnDelayedSpec)

/-- 'laws.FnExactBurstColour', WHERE WHAT IT READS IS OF BULK AT MOST 1048576: true; the input reads as it did. -/
def fnExactBurstColourUptoRow : OpenClaim := { program := "ytbjllfnjecggfaa", sum := "b6c774dce0b016ef0480ef28dccc168ab9703aada7aed81c23c8d125d7418f55", func := "loop.example/g03326/laws.FnExactBurstColour", spec := "fnExactBurstColour", unfollowed := true, recurses := true, apart := false, narrowed := true }
def FnExactBurstColourUptoSaid : Prop := fnExactBurstColourUptoRow.holds Try.pinned (OpenSpec.upto fnExactBurstColourSpec)

/-- 'laws.FnOddConjugate', WHERE WHAT IT READS IS OF BULK AT MOST 1048576: true; the input reads as it did. -/
def fnOddConjugateUptoRow : OpenClaim := { program := "ytbjllfnjecggfaa", sum := "b6c774dce0b016ef0480ef28dccc168ab9703aada7aed81c23c8d125d7418f55", func := "loop.example/g03326/laws.FnOddConjugate", spec := "fnOddConjugate", unfollowed := true, recurses := true, apart := false, narrowed := true }
def FnOddConjugateUptoSaid : Prop := fnOddConjugateUptoRow.holds Try.pinned (OpenSpec.upto fnOddConjugateSpec)

/-- 'laws.FnPaired', WHERE WHAT IT READS IS OF BULK AT MOST 1048576: true; the input reads as it did. -/
def fnPairedUptoRow : OpenClaim := { program := "ytbjllfnjecggfaa", sum := "b6c774dce0b016ef0480ef28dccc168ab9703aada7aed81c23c8d125d7418f55", func := "loop.example/g03326/laws.FnPaired", spec := "fnPaired", unfollowed := true, recurses := true, apart := false, narrowed := true }
def FnPairedUptoSaid : Prop := fnPairedUptoRow.holds Try.pinned (OpenSpec.upto fnPairedSpec)

/-- 'laws.FnExactHueGain', WHERE WHAT IT READS IS OF BULK AT MOST 1048576: true; the input reads as it did. -/
def fnExactHueGainUptoRow : OpenClaim := { program := "ytbjllfnjecggfaa", sum := "b6c774dce0b016ef0480ef28dccc168ab9703aada7aed81c23c8d125d7418f55", func := "loop.example/g03326/laws.FnExactHueGain", spec := "fnExactHueGain", unfollowed := true, recurses := true, apart := false, narrowed := true }
def FnExactHueGainUptoSaid : Prop := fnExactHueGainUptoRow.holds Try.pinned (OpenSpec.upto fnExactHueGainSpec)

/-- 'laws.FnFieldsWoven', WHERE WHAT IT READS IS OF BULK AT MOST 1048576: true; the input reads as it did. -/
def fnFieldsWovenUptoRow : OpenClaim := { program := "ytbjllfnjecggfaa", sum := "b6c774dce0b016ef0480ef28dccc168ab9703aada7aed81c23c8d125d7418f55", func := "loop.example/g03326/laws.FnFieldsWoven", spec := "fnFieldsWoven", unfollowed := true, recurses := true, apart := false, narrowed := true }
def FnFieldsWovenUptoSaid : Prop := fnFieldsWovenUptoRow.holds Try.pinned (OpenSpec.upto fnFieldsWovenSpec)

/-- 'laws.FnExactSwing', WHERE WHAT IT READS IS OF BULK AT MOST 1048576: true; the input reads as it did. -/
def fnExactSwingUptoRow : OpenClaim := { program := "ytbjllfnjecggfaa", sum := "b6c774dce0b016ef0480ef28dccc168ab9703aada7aed81c23c8d125d7418f55", func := "loop.example/g03326/laws.FnExactSwing", spec := "fnExactSwing", unfollowed := true, recurses := true, apart := false, narrowed := true }
def FnExactSwingUptoSaid : Prop := fnExactSwingUptoRow.holds Try.pinned (OpenSpec.upto fnExactSwingSpec)

/-- 'laws.FnExactCarrier', WHERE WHAT IT READS IS OF BULK AT MOST 1048576: true; the input reads as it did. -/
def fnExactCarrierUptoRow : OpenClaim := { program := "ytbjllfnjecggfaa", sum := "b6c774dce0b016ef0480ef28dccc168ab9703aada7aed81c23c8d125d7418f55", func := "loop.example/g03326/laws.FnExactCarrier", spec := "fnExactCarrier", apart := false, narrowed := true }
def FnExactCarrierUptoSaid : Prop := fnExactCarrierUptoRow.holds Try.pinned (OpenSpec.upto fnExactCarrierSpec)

end Rows
end Go.Proofs.Ytbjllfnjecggfaa
