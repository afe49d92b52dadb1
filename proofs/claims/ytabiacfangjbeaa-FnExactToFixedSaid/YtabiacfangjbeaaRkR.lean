/- The law FnExactToFixed returns true for all arguments. No condition. -/
import Derived.Test.YtabiacfangjbeaaRk
import Derived.Test.YtabiacfangjbeaaCl
import Derived.ProofKit
import Derived.OpenShut
import Derived.ShutString
import Derived.ChangeOld
import Derived.Carry
import Derived.Deep.Slices
namespace Go.Proofs.Ytabiacfangjbeaa.fnExactToFixed
open Go.ChangeShapes Go.WideShapes Go.ChangeAt Go.RowKit
open Go.ChangeMaps (open_string shut_string)
set_option linter.unusedVariables false

theorem own : ownKnob Try.prog.godebug = none := own_t
theorem laidOut : laidOutB Try.prog = true := laidOut_t

set_option maxRecDepth 100000 in
theorem lifted (os : Os) (started : os.Started) (H : Type) (enc : TypeId × Value → H) :
    ReturnsInHanded {} Try.checked os 4 .any (Rows.fnExactToFixedSpec.pre6 enc Try.prog Try.f4 Rows.fnExactToFixedRow.domain false) (Rows.fnExactToFixedSpec.post enc Try.prog Try.f4 false true false false) := by
  refine returnsInHanded_of_change (C := Try.checked) own started (by kernel_rfl) Try.func4
    (ChangeSpec.witness6 (enc := enc) (C := Try.checked) false ⟨#[], #[.float .f64 0], []⟩ 8 (by kernel_rfl) (by kernel_rfl) (by kernel_rfl) (by kernel_rfl)) ?_
  intro W base args ds gs before hval0 hW hcnd _
  have hval : ∀ (j : Nat) t v, Try.f4.params[j]? = some t → args[j]? = some v → Value.okWide Try.prog W .any base t v := hval0
  have hW' := hW
  obtain ⟨p, q, hA0, hV, rfl, hfz, hnd⟩ := hW
  have hA : DataW.TrodAll enc Try.prog W 0 (fun _ => true) true Try.f4.params.toList args.toList ds p := hA0
  rw [Try.params4] at hA hval
  obtain ⟨v0, vs0, d0, ds0, p0, q0, hargs, rfl, rfl, h0, r0⟩ := trodAll_cons hA
  obtain ⟨rfl, rfl, rfl⟩ := trodAll_nil r0
  obtain rfl : args = #[v0] := by cases args; simp_all
  obtain ⟨rfl, rfl⟩ := trodVars_none hV
  obtain ⟨a0, rfl, rfl, rfl, w0⟩ := open_float Try.underlying22 (hval 0 22 v0 rfl rfl) h0
  clear hA0 hval0
  refine (lawToFixed W a0 w0).mono fun e W' ⟨he, bel⟩ => ?_
  subst he
  exact ⟨_, rfl, _, _, _, [], _, [], hW', trodAll_mk1 (shut_bool Try.underlying4 _), (trodAll_cons_mk (shut_float Try.underlying22 w0) trodAll_mk0), rfl, bel.frame _, fun h => by cases h⟩

theorem c0 : Rows.fnExactToFixedRow.wf (OpenSpec.ofChange Rows.fnExactToFixedSpec) = true := by kernel_rfl
theorem c3 : Try.f4.params.all (Try.prog.readableRec ·) = true := by kernel_rfl
theorem c4 : namedTie Try.prog Rows.fnExactToFixedRow.named Rows.fnExactToFixedSpec.vars = true := by kernel_rfl
theorem c5 : (Rows.fnExactToFixedRow.stops == []) = true := by kernel_rfl
theorem c7 : (Rows.fnExactToFixedRow.knobs == []) = true := by kernel_rfl
theorem c9 : (Rows.fnExactToFixedRow.inPlace == Try.prog.inPlace 4) = true := by kernel_rfl
theorem c10 : (Rows.fnExactToFixedRow.unfollowed == Try.prog.unfollowed 4) = true := by kernel_rfl
theorem c11 : (Rows.fnExactToFixedRow.recurses == Try.prog.recurses 4) = true := by kernel_rfl
theorem c12 : (Rows.fnExactToFixedRow.named == Try.prog.varsNamed 4) = true := by kernel_rfl
theorem c13 : (Rows.fnExactToFixedRow.maps == (Try.f4.params.toList ++ Rows.fnExactToFixedSpec.plain.varTypes Try.prog).any (Try.prog.mapsRec ·)) = true := by kernel_rfl
theorem c14 : (Rows.fnExactToFixedRow.ifaces == (Try.f4.params.toList ++ Rows.fnExactToFixedSpec.plain.varTypes Try.prog).any (Try.prog.ifacesRec ·)) = true := by kernel_rfl
theorem c15 : (Rows.fnExactToFixedRow.mapsOut == Try.prog.mapsAmong Try.f4.resultTypes.toList) = true := by kernel_rfl
theorem c16 : (Rows.fnExactToFixedRow.loops == (Try.f4.params.toList ++ Rows.fnExactToFixedSpec.plain.varTypes Try.prog).any (Try.prog.loopsFrom ·)) = true := by kernel_rfl
theorem c17 : (Rows.fnExactToFixedRow.wideKeys == (Try.f4.params.toList ++ Rows.fnExactToFixedSpec.plain.varTypes Try.prog ++ Try.f4.resultTypes.toList).any (Try.prog.wideKeysFrom ·)) = true := by kernel_rfl
theorem c18 : Rows.fnExactToFixedSpec.vars.all (Try.prog.varReadable ·) = true := by kernel_rfl
theorem c19 : Try.f4.resultTypes.all (fun t => Try.prog.readableRec t && decide (t < Try.prog.types.size)) = true := by kernel_rfl
theorem c20 : (Rows.fnExactToFixedRow.ifacesOut == Try.f4.resultTypes.toList.any (Try.prog.ifacesRec ·)) = true := by kernel_rfl
theorem c21 : (Rows.fnExactToFixedRow.loopsOut == Try.f4.resultTypes.toList.any (Try.prog.loopsFrom ·)) = true := by kernel_rfl
theorem c22 : (Rows.fnExactToFixedRow.plainKeys == Try.prog.plainKeys) = true := by rw [plainKeys_t]; rfl
theorem c23 : Rows.fnExactToFixedRow.shortTexts.isNone = true := by kernel_rfl
theorem c26 : (Rows.fnExactToFixedRow.lifted == Try.prog.liftsFinal) = true := by rw [liftsFinal_t]; rfl
theorem c27 : (Try.prog.make == some Rows.fnExactToFixedRow.make) = true := by rw [make_t]; rfl
theorem c28 : (Rows.fnExactToFixedRow.kinds == (if Rows.fnExactToFixedRow.domain.isEmpty then [] else Try.f4.params.toList.map fun t => match Try.prog.underlying t with | some (.int k) => some k | _ => none)) = true := by kernel_rfl
theorem c29 : (Rows.fnExactToFixedRow.pinned == Rows.fnExactToFixedRow.pinnedBy) = true := by kernel_rfl
theorem c30 : (Rows.fnExactToFixedRow.veiled == (Try.f4.params.toList ++ Rows.fnExactToFixedSpec.plain.varTypes Try.prog ++ Try.f4.resultTypes.toList).any (Try.prog.veiledRec ·)) = true := by kernel_rfl
theorem c31 : Rows.fnExactToFixedRow.veiledFits Try.prog Try.f4.params.toList (Try.f4.params.toList ++ Rows.fnExactToFixedSpec.plain.varTypes Try.prog ++ Try.f4.resultTypes.toList) = true := by kernel_rfl
set_option maxRecDepth 100000 in
theorem closed : joinedFacts Try.prog 4 Try.f4 Rows.fnExactToFixedSpec Rows.fnExactToFixedRow = true := by unfold joinedFacts; exact (tt (tt (tt (tt (tt (tt (tt (tt (tt (tt (tt (tt (tt (tt (tt (tt (tt (tt (tt (tt (tt (tt (tt (tt (tt (tt (tt (tt (tt (tt (tt c0 laidOut_t) mapsRowed_t) c3) c4) c5) stops_t) c7) stopKnobs_t) c9) c10) c11) c12) c13) c14) c15) c16) c17) c18) c19) c20) c21) c22) c23) stopsHeard_t) mayEnter_t) c26) c27) c28) c29) c30) c31)
theorem named : Try.prog.funcNamed Rows.fnExactToFixedRow.func = some 4 := by kernel_rfl
theorem inst : Try.f4.isInstance Try.prog Rows.fnExactToFixedRow.origin Rows.fnExactToFixedRow.targs := of_decide_eq_true (by kernel_rfl)
theorem wrap : Try.f4.isWrapper Try.prog Rows.fnExactToFixedRow.wrapper Rows.fnExactToFixedRow.mainSum := by unfold Func.isWrapper; first | (rw [if_pos (by decide +kernel)]; kernel_rfl) | (rw [if_neg (by decide +kernel)]; exact ⟨rfl, rfl⟩)

theorem over : Rows.fnExactToFixedRow.holds Try.pinned (OpenSpec.ofChange Rows.fnExactToFixedSpec) :=
  OpenClaim.holds_of_wide (p := Try.pinned) 4 Try.f4 rfl rfl rfl rfl rfl rfl rfl ⟨rfl, rfl, rfl, rfl, rfl⟩ rfl rfl rfl rfl rfl named Try.func4 closed inst wrap
    (fun os started H enc _ => lifted os started H enc)

theorem proved : Rows.FnExactToFixedSaid := over
#print axioms proved
end Go.Proofs.Ytabiacfangjbeaa.fnExactToFixed
