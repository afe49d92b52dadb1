/- The law FnExactConstants returns true. No condition. -/
import Derived.Test.YtpdpkgpjgockaaaEk
import Derived.Test.YtpdpkgpjgockaaaCl
import Derived.ProofKit
import Derived.OpenShut
import Derived.ShutString
import Derived.ChangeOld
import Derived.Carry
import Derived.Deep.Slices
namespace Go.Proofs.Ytpdpkgpjgockaaa.fnExactConstants
open Go.ChangeShapes Go.WideShapes Go.ChangeAt Go.RowKit
open Go.ChangeMaps (open_string shut_string)
set_option linter.unusedVariables false

theorem own : ownKnob Try.prog.godebug = none := own_t
theorem laidOut : laidOutB Try.prog = true := laidOut_t

set_option maxRecDepth 100000 in
theorem lifted (os : Os) (started : os.Started) (H : Type) (enc : TypeId × Value → H) :
    ReturnsInHanded {} Try.checked os 3 .any (Rows.fnExactConstantsSpec.pre6 enc Try.prog Try.f3 Rows.fnExactConstantsRow.domain false) (Rows.fnExactConstantsSpec.post enc Try.prog Try.f3 false true false false) := by
  refine returnsInHanded_of_change (C := Try.checked) own started (by kernel_rfl) Try.func3
    (ChangeSpec.witness6 (enc := enc) (C := Try.checked) false ⟨#[], #[], []⟩ 8 (by kernel_rfl) (by kernel_rfl) (by kernel_rfl) (by kernel_rfl)) ?_
  intro W base args ds gs before hval0 hW hcnd _
  have hval : ∀ (j : Nat) t v, Try.f3.params[j]? = some t → args[j]? = some v → Value.okWide Try.prog W .any base t v := hval0
  have hW' := hW
  obtain ⟨p, q, hA0, hV, rfl, hfz, hnd⟩ := hW
  have hA : DataW.TrodAll enc Try.prog W 0 (fun _ => true) true Try.f3.params.toList args.toList ds p := hA0
  rw [Try.params3] at hA hval
  obtain ⟨hargs, rfl, rfl⟩ := trodAll_nil hA
  obtain rfl : args = #[] := by cases args; simp_all
  obtain ⟨rfl, rfl⟩ := trodVars_none hV
  clear hA0 hval0
  refine (lawConst W ).mono fun e W' ⟨he, bel⟩ => ?_
  subst he
  exact ⟨_, rfl, _, _, _, [], _, [], hW', trodAll_mk1 (shut_bool Try.underlying4 _), trodAll_mk0, rfl, bel.frame _, fun h => by cases h⟩

theorem c0 : Rows.fnExactConstantsRow.wf (OpenSpec.ofChange Rows.fnExactConstantsSpec) = true := by kernel_rfl
theorem c3 : Try.f3.params.all (Try.prog.readableRec ·) = true := by kernel_rfl
theorem c4 : namedTie Try.prog Rows.fnExactConstantsRow.named Rows.fnExactConstantsSpec.vars = true := by kernel_rfl
theorem c5 : (Rows.fnExactConstantsRow.stops == []) = true := by kernel_rfl
theorem c7 : (Rows.fnExactConstantsRow.knobs == []) = true := by kernel_rfl
theorem c9 : (Rows.fnExactConstantsRow.inPlace == Try.prog.inPlace 3) = true := by kernel_rfl
theorem c10 : (Rows.fnExactConstantsRow.unfollowed == Try.prog.unfollowed 3) = true := by kernel_rfl
theorem c11 : (Rows.fnExactConstantsRow.recurses == Try.prog.recurses 3) = true := by kernel_rfl
theorem c12 : (Rows.fnExactConstantsRow.named == Try.prog.varsNamed 3) = true := by kernel_rfl
theorem c13 : (Rows.fnExactConstantsRow.maps == (Try.f3.params.toList ++ Rows.fnExactConstantsSpec.plain.varTypes Try.prog).any (Try.prog.mapsRec ·)) = true := by kernel_rfl
theorem c14 : (Rows.fnExactConstantsRow.ifaces == (Try.f3.params.toList ++ Rows.fnExactConstantsSpec.plain.varTypes Try.prog).any (Try.prog.ifacesRec ·)) = true := by kernel_rfl
theorem c15 : (Rows.fnExactConstantsRow.mapsOut == Try.prog.mapsAmong Try.f3.resultTypes.toList) = true := by kernel_rfl
theorem c16 : (Rows.fnExactConstantsRow.loops == (Try.f3.params.toList ++ Rows.fnExactConstantsSpec.plain.varTypes Try.prog).any (Try.prog.loopsFrom ·)) = true := by kernel_rfl
theorem c17 : (Rows.fnExactConstantsRow.wideKeys == (Try.f3.params.toList ++ Rows.fnExactConstantsSpec.plain.varTypes Try.prog ++ Try.f3.resultTypes.toList).any (Try.prog.wideKeysFrom ·)) = true := by kernel_rfl
theorem c18 : Rows.fnExactConstantsSpec.vars.all (Try.prog.varReadable ·) = true := by kernel_rfl
theorem c19 : Try.f3.resultTypes.all (fun t => Try.prog.readableRec t && decide (t < Try.prog.types.size)) = true := by kernel_rfl
theorem c20 : (Rows.fnExactConstantsRow.ifacesOut == Try.f3.resultTypes.toList.any (Try.prog.ifacesRec ·)) = true := by kernel_rfl
theorem c21 : (Rows.fnExactConstantsRow.loopsOut == Try.f3.resultTypes.toList.any (Try.prog.loopsFrom ·)) = true := by kernel_rfl
theorem c22 : (Rows.fnExactConstantsRow.plainKeys == Try.prog.plainKeys) = true := by rw [plainKeys_t]; rfl
theorem c23 : Rows.fnExactConstantsRow.shortTexts.isNone = true := by kernel_rfl
theorem c26 : (Rows.fnExactConstantsRow.lifted == Try.prog.liftsFinal) = true := by rw [liftsFinal_t]; rfl
theorem c27 : (Try.prog.make == some Rows.fnExactConstantsRow.make) = true := by rw [make_t]; rfl
theorem c28 : (Rows.fnExactConstantsRow.kinds == (if Rows.fnExactConstantsRow.domain.isEmpty then [] else Try.f3.params.toList.map fun t => match Try.prog.underlying t with | some (.int k) => some k | _ => none)) = true := by kernel_rfl
theorem c29 : (Rows.fnExactConstantsRow.pinned == Rows.fnExactConstantsRow.pinnedBy) = true := by kernel_rfl
theorem c30 : (Rows.fnExactConstantsRow.veiled == (Try.f3.params.toList ++ Rows.fnExactConstantsSpec.plain.varTypes Try.prog ++ Try.f3.resultTypes.toList).any (Try.prog.veiledRec ·)) = true := by kernel_rfl
theorem c31 : Rows.fnExactConstantsRow.veiledFits Try.prog Try.f3.params.toList (Try.f3.params.toList ++ Rows.fnExactConstantsSpec.plain.varTypes Try.prog ++ Try.f3.resultTypes.toList) = true := by kernel_rfl
set_option maxRecDepth 100000 in
theorem closed : joinedFacts Try.prog 3 Try.f3 Rows.fnExactConstantsSpec Rows.fnExactConstantsRow = true := by unfold joinedFacts; exact (tt (tt (tt (tt (tt (tt (tt (tt (tt (tt (tt (tt (tt (tt (tt (tt (tt (tt (tt (tt (tt (tt (tt (tt (tt (tt (tt (tt (tt (tt (tt c0 laidOut_t) mapsRowed_t) c3) c4) c5) stops_t) c7) stopKnobs_t) c9) c10) c11) c12) c13) c14) c15) c16) c17) c18) c19) c20) c21) c22) c23) stopsHeard_t) mayEnter_t) c26) c27) c28) c29) c30) c31)
theorem named : Try.prog.funcNamed Rows.fnExactConstantsRow.func = some 3 := by kernel_rfl
theorem inst : Try.f3.isInstance Try.prog Rows.fnExactConstantsRow.origin Rows.fnExactConstantsRow.targs := of_decide_eq_true (by kernel_rfl)
theorem wrap : Try.f3.isWrapper Try.prog Rows.fnExactConstantsRow.wrapper Rows.fnExactConstantsRow.mainSum := by unfold Func.isWrapper; first | (rw [if_pos (by decide +kernel)]; kernel_rfl) | (rw [if_neg (by decide +kernel)]; exact ⟨rfl, rfl⟩)

theorem over : Rows.fnExactConstantsRow.holds Try.pinned (OpenSpec.ofChange Rows.fnExactConstantsSpec) :=
  OpenClaim.holds_of_wide (p := Try.pinned) 3 Try.f3 rfl rfl rfl rfl rfl rfl rfl ⟨rfl, rfl, rfl, rfl, rfl⟩ rfl rfl rfl rfl rfl named Try.func3 closed inst wrap
    (fun os started H enc _ => lifted os started H enc)

theorem proved : Rows.FnExactConstantsSaid := over
#print axioms proved
end Go.Proofs.Ytpdpkgpjgockaaa.fnExactConstants
