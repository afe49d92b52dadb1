/- The law FnExactCarrier returns true for all arguments. No condition. -/
import Derived.Test.YtbjllfnjecggfaaEr
import Derived.Test.YtbjllfnjecggfaaCl
import Derived.ProofKit
import Derived.OpenShut
import Derived.ShutString
import Derived.ChangeOld
import Derived.Carry
import Derived.Deep.Slices
namespace Go.Proofs.Ytbjllfnjecggfaa.fnExactCarrier
open Go.ChangeShapes Go.WideShapes Go.ChangeAt Go.RowKit
open Go.ChangeMaps (open_string shut_string)
set_option linter.unusedVariables false

theorem own : ownKnob Try.prog.godebug = none := own_t
theorem laidOut : laidOutB Try.prog = true := laidOut_t

set_option maxRecDepth 100000 in
theorem lifted (os : Os) (started : os.Started) (H : Type) (enc : TypeId × Value → H) :
    ReturnsInHanded {} Try.checked os 24 .any (Rows.fnExactCarrierSpec.pre6 enc Try.prog Try.f24 Rows.fnExactCarrierRow.domain false) (Rows.fnExactCarrierSpec.post enc Try.prog Try.f24 false true false false) := by
  refine returnsInHanded_of_change (C := Try.checked) own started (by kernel_rfl) Try.func24
    (ChangeSpec.witness6 (enc := enc) (C := Try.checked) false ⟨#[], #[.int .i64 0], []⟩ 8 (by kernel_rfl) (by kernel_rfl) (by kernel_rfl) (by kernel_rfl)) ?_
  intro W base args ds gs before hval0 hW hcnd _
  have hval : ∀ (j : Nat) t v, Try.f24.params[j]? = some t → args[j]? = some v → Value.okWide Try.prog W .any base t v := hval0
  have hW' := hW
  obtain ⟨p, q, hA0, hV, rfl, hfz, hnd⟩ := hW
  have hA : DataW.TrodAll enc Try.prog W 0 (fun _ => true) true Try.f24.params.toList args.toList ds p := hA0
  rw [Try.params24] at hA hval
  obtain ⟨v0, vs0, d0, ds0, p0, q0, hargs, rfl, rfl, h0, r0⟩ := trodAll_cons hA
  obtain ⟨rfl, rfl, rfl⟩ := trodAll_nil r0
  obtain rfl : args = #[v0] := by cases args; simp_all
  obtain ⟨rfl, rfl⟩ := trodVars_none hV
  obtain ⟨a0, rfl, rfl, rfl, w0⟩ := open_int Try.underlying3 (hval 0 3 v0 rfl rfl) h0
  clear hA0 hval0
  refine (lawCarrier W a0 w0).mono fun e W' ⟨he, bel⟩ => ?_
  subst he
  exact ⟨_, rfl, _, _, _, [], _, [], hW', trodAll_mk1 (shut_bool Try.underlying4 _), (trodAll_cons_mk (shut_int Try.underlying3 w0) trodAll_mk0), rfl, bel.frame _, fun h => by cases h⟩

theorem c0 : Rows.fnExactCarrierRow.wf (OpenSpec.ofChange Rows.fnExactCarrierSpec) = true := by kernel_rfl
theorem c3 : Try.f24.params.all (Try.prog.readableRec ·) = true := by kernel_rfl
theorem c4 : namedTie Try.prog Rows.fnExactCarrierRow.named Rows.fnExactCarrierSpec.vars = true := by kernel_rfl
theorem c5 : (Rows.fnExactCarrierRow.stops == []) = true := by kernel_rfl
theorem c7 : (Rows.fnExactCarrierRow.knobs == []) = true := by kernel_rfl
theorem c9 : (Rows.fnExactCarrierRow.inPlace == Try.prog.inPlace 24) = true := by kernel_rfl
theorem c10 : (Rows.fnExactCarrierRow.unfollowed == Try.prog.unfollowed 24) = true := by kernel_rfl
theorem c11 : (Rows.fnExactCarrierRow.recurses == Try.prog.recurses 24) = true := by kernel_rfl
theorem c12 : (Rows.fnExactCarrierRow.named == Try.prog.varsNamed 24) = true := by kernel_rfl
theorem c13 : (Rows.fnExactCarrierRow.maps == (Try.f24.params.toList ++ Rows.fnExactCarrierSpec.plain.varTypes Try.prog).any (Try.prog.mapsRec ·)) = true := by kernel_rfl
theorem c14 : (Rows.fnExactCarrierRow.ifaces == (Try.f24.params.toList ++ Rows.fnExactCarrierSpec.plain.varTypes Try.prog).any (Try.prog.ifacesRec ·)) = true := by kernel_rfl
theorem c15 : (Rows.fnExactCarrierRow.mapsOut == Try.prog.mapsAmong Try.f24.resultTypes.toList) = true := by kernel_rfl
theorem c16 : (Rows.fnExactCarrierRow.loops == (Try.f24.params.toList ++ Rows.fnExactCarrierSpec.plain.varTypes Try.prog).any (Try.prog.loopsFrom ·)) = true := by kernel_rfl
theorem c17 : (Rows.fnExactCarrierRow.wideKeys == (Try.f24.params.toList ++ Rows.fnExactCarrierSpec.plain.varTypes Try.prog ++ Try.f24.resultTypes.toList).any (Try.prog.wideKeysFrom ·)) = true := by kernel_rfl
theorem c18 : Rows.fnExactCarrierSpec.vars.all (Try.prog.varReadable ·) = true := by kernel_rfl
theorem c19 : Try.f24.resultTypes.all (fun t => Try.prog.readableRec t && decide (t < Try.prog.types.size)) = true := by kernel_rfl
theorem c20 : (Rows.fnExactCarrierRow.ifacesOut == Try.f24.resultTypes.toList.any (Try.prog.ifacesRec ·)) = true := by kernel_rfl
theorem c21 : (Rows.fnExactCarrierRow.loopsOut == Try.f24.resultTypes.toList.any (Try.prog.loopsFrom ·)) = true := by kernel_rfl
theorem c22 : (Rows.fnExactCarrierRow.plainKeys == Try.prog.plainKeys) = true := by rw [plainKeys_t]; rfl
theorem c23 : Rows.fnExactCarrierRow.shortTexts.isNone = true := by kernel_rfl
theorem c26 : (Rows.fnExactCarrierRow.lifted == Try.prog.liftsFinal) = true := by rw [liftsFinal_t]; rfl
theorem c27 : (Try.prog.make == some Rows.fnExactCarrierRow.make) = true := by rw [make_t]; rfl
theorem c28 : (Rows.fnExactCarrierRow.kinds == (if Rows.fnExactCarrierRow.domain.isEmpty then [] else Try.f24.params.toList.map fun t => match Try.prog.underlying t with | some (.int k) => some k | _ => none)) = true := by kernel_rfl
theorem c29 : (Rows.fnExactCarrierRow.pinned == Rows.fnExactCarrierRow.pinnedBy) = true := by kernel_rfl
theorem c30 : (Rows.fnExactCarrierRow.veiled == (Try.f24.params.toList ++ Rows.fnExactCarrierSpec.plain.varTypes Try.prog ++ Try.f24.resultTypes.toList).any (Try.prog.veiledRec ·)) = true := by kernel_rfl
theorem c31 : Rows.fnExactCarrierRow.veiledFits Try.prog Try.f24.params.toList (Try.f24.params.toList ++ Rows.fnExactCarrierSpec.plain.varTypes Try.prog ++ Try.f24.resultTypes.toList) = true := by kernel_rfl
set_option maxRecDepth 100000 in
theorem closed : joinedFacts Try.prog 24 Try.f24 Rows.fnExactCarrierSpec Rows.fnExactCarrierRow = true := by unfold joinedFacts; exact (tt (tt (tt (tt (tt (tt (tt (tt (tt (tt (tt (tt (tt (tt (tt (tt (tt (tt (tt (tt (tt (tt (tt (tt (tt (tt (tt (tt (tt (tt (tt c0 laidOut_t) mapsRowed_t) c3) c4) c5) stops_t) c7) stopKnobs_t) c9) c10) c11) c12) c13) c14) c15) c16) c17) c18) c19) c20) c21) c22) c23) stopsHeard_t) mayEnter_t) c26) c27) c28) c29) c30) c31)
theorem named : Try.prog.funcNamed Rows.fnExactCarrierRow.func = some 24 := by kernel_rfl
theorem inst : Try.f24.isInstance Try.prog Rows.fnExactCarrierRow.origin Rows.fnExactCarrierRow.targs := of_decide_eq_true (by kernel_rfl)
theorem wrap : Try.f24.isWrapper Try.prog Rows.fnExactCarrierRow.wrapper Rows.fnExactCarrierRow.mainSum := by unfold Func.isWrapper; first | (rw [if_pos (by decide +kernel)]; kernel_rfl) | (rw [if_neg (by decide +kernel)]; exact ⟨rfl, rfl⟩)

theorem over : Rows.fnExactCarrierRow.holds Try.pinned (OpenSpec.ofChange Rows.fnExactCarrierSpec) :=
  OpenClaim.holds_of_wide (p := Try.pinned) 24 Try.f24 rfl rfl rfl rfl rfl rfl rfl ⟨rfl, rfl, rfl, rfl, rfl⟩ rfl rfl rfl rfl rfl named Try.func24 closed inst wrap
    (fun os started H enc _ => lifted os started H enc)

theorem proved : Rows.FnExactCarrierSaid := over
#print axioms proved
end Go.Proofs.Ytbjllfnjecggfaa.fnExactCarrier
