/- The law FnFieldsWoven returns true for all arguments, and leaves them as they were. No condition. -/
import Derived.Test.YtbjllfnjecggfaaZl
import Derived.Test.YtbjllfnjecggfaaOb
import Derived.Test.YtbjllfnjecggfaaCl
import Derived.ProofKit
import Derived.OpenShut
import Derived.ShutString
import Derived.ChangeOld
import Derived.Carry
import Derived.Deep.Slices
namespace Go.Proofs.Ytbjllfnjecggfaa.fnFieldsWoven
open Go.ChangeShapes Go.WideShapes Go.ChangeAt Go.RowKit
open Go.ChangeMaps (open_string shut_string)
set_option linter.unusedVariables false

theorem own : ownKnob Try.prog.godebug = none := own_t
theorem laidOut : laidOutB Try.prog = true := laidOut_t

set_option maxRecDepth 100000 in
theorem lifted (os : Os) (started : os.Started) (H : Type) (enc : TypeId × Value → H) :
    ReturnsInHanded {} Try.checked os 22 .any (Rows.fnFieldsWovenSpec.pre6 enc Try.prog Try.f22 Rows.fnFieldsWovenRow.domain false) (Rows.fnFieldsWovenSpec.post enc Try.prog Try.f22 false true false false) := by
  refine returnsInHanded_of_change (C := Try.checked) own started (by kernel_rfl) Try.func22
    (ChangeSpec.witness6 (enc := enc) (C := Try.checked) false ⟨#[], #[.slice none 0 0], []⟩ 8 (by kernel_rfl) (by kernel_rfl) (by kernel_rfl) (by kernel_rfl)) ?_
  intro W base args ds gs before hval0 hW hcnd _
  have hval : ∀ (j : Nat) t v, Try.f22.params[j]? = some t → args[j]? = some v → Value.okWide Try.prog W .any base t v := hval0
  have hW' := hW
  obtain ⟨p, q, hA0, hV, rfl, hfz, hnd⟩ := hW
  have hA : DataW.TrodAll enc Try.prog W 0 (fun _ => true) true Try.f22.params.toList args.toList ds p := hA0
  rw [Try.params22] at hA hval
  obtain ⟨v0, vs0, d0, ds0, p0, q0, hargs, rfl, rfl, h0, r0⟩ := trodAll_cons hA
  obtain ⟨rfl, rfl, rfl⟩ := trodAll_nil r0
  obtain rfl : args = #[v0] := by cases args; simp_all
  obtain ⟨rfl, rfl⟩ := trodVars_none hV
  obtain ⟨a0, len0, cap0, rfl⟩ := okWide_slice Try.underlying31 (hval 0 31 v0 rfl rfl)
  have k0 := h0
  have lt0 : ∀ x ∈ p0, x.block < W.heap.size := by obtain ⟨m, hm⟩ := k0; exact DataW.trod_lt m _ _ _ hm
  obtain ⟨z0, w0⟩ := open_bytes h0
  clear hA0 hval0
  refine (lawFw W a0 len0 cap0 z0 w0).mono fun e W' ⟨he, bel⟩ => ?_
  subst he
  exact ⟨_, rfl, _, _, _, [], _, [], hW', trodAll_mk1 (shut_bool Try.underlying4 _), (trodAll_cons_mk (Below.trod laidOut (by kernel_rfl) (of_decide_eq_true (by kernel_rfl)) k0 bel lt0) trodAll_mk0), rfl, bel.frame _, fun h => by cases h⟩

theorem c0 : Rows.fnFieldsWovenRow.wf (OpenSpec.ofChange Rows.fnFieldsWovenSpec) = true := by kernel_rfl
theorem c3 : Try.f22.params.all (Try.prog.readableRec ·) = true := by kernel_rfl
theorem c4 : namedTie Try.prog Rows.fnFieldsWovenRow.named Rows.fnFieldsWovenSpec.vars = true := by kernel_rfl
theorem c5 : (Rows.fnFieldsWovenRow.stops == []) = true := by kernel_rfl
theorem c7 : (Rows.fnFieldsWovenRow.knobs == []) = true := by kernel_rfl
theorem c9 : (Rows.fnFieldsWovenRow.inPlace == Try.prog.inPlace 22) = true := by kernel_rfl
theorem c10 : (Rows.fnFieldsWovenRow.unfollowed == Try.prog.unfollowed 22) = true := by kernel_rfl
theorem c11 : (Rows.fnFieldsWovenRow.recurses == Try.prog.recurses 22) = true := by kernel_rfl
theorem c12 : (Rows.fnFieldsWovenRow.named == Try.prog.varsNamed 22) = true := by kernel_rfl
theorem c13 : (Rows.fnFieldsWovenRow.maps == (Try.f22.params.toList ++ Rows.fnFieldsWovenSpec.plain.varTypes Try.prog).any (Try.prog.mapsRec ·)) = true := by kernel_rfl
theorem c14 : (Rows.fnFieldsWovenRow.ifaces == (Try.f22.params.toList ++ Rows.fnFieldsWovenSpec.plain.varTypes Try.prog).any (Try.prog.ifacesRec ·)) = true := by kernel_rfl
theorem c15 : (Rows.fnFieldsWovenRow.mapsOut == Try.prog.mapsAmong Try.f22.resultTypes.toList) = true := by kernel_rfl
theorem c16 : (Rows.fnFieldsWovenRow.loops == (Try.f22.params.toList ++ Rows.fnFieldsWovenSpec.plain.varTypes Try.prog).any (Try.prog.loopsFrom ·)) = true := by kernel_rfl
theorem c17 : (Rows.fnFieldsWovenRow.wideKeys == (Try.f22.params.toList ++ Rows.fnFieldsWovenSpec.plain.varTypes Try.prog ++ Try.f22.resultTypes.toList).any (Try.prog.wideKeysFrom ·)) = true := by kernel_rfl
theorem c18 : Rows.fnFieldsWovenSpec.vars.all (Try.prog.varReadable ·) = true := by kernel_rfl
theorem c19 : Try.f22.resultTypes.all (fun t => Try.prog.readableRec t && decide (t < Try.prog.types.size)) = true := by kernel_rfl
theorem c20 : (Rows.fnFieldsWovenRow.ifacesOut == Try.f22.resultTypes.toList.any (Try.prog.ifacesRec ·)) = true := by kernel_rfl
theorem c21 : (Rows.fnFieldsWovenRow.loopsOut == Try.f22.resultTypes.toList.any (Try.prog.loopsFrom ·)) = true := by kernel_rfl
theorem c22 : (Rows.fnFieldsWovenRow.plainKeys == Try.prog.plainKeys) = true := by rw [plainKeys_t]; rfl
theorem c23 : Rows.fnFieldsWovenRow.shortTexts.isNone = true := by kernel_rfl
theorem c26 : (Rows.fnFieldsWovenRow.lifted == Try.prog.liftsFinal) = true := by rw [liftsFinal_t]; rfl
theorem c27 : (Try.prog.make == some Rows.fnFieldsWovenRow.make) = true := by rw [make_t]; rfl
theorem c28 : (Rows.fnFieldsWovenRow.kinds == (if Rows.fnFieldsWovenRow.domain.isEmpty then [] else Try.f22.params.toList.map fun t => match Try.prog.underlying t with | some (.int k) => some k | _ => none)) = true := by kernel_rfl
theorem c29 : (Rows.fnFieldsWovenRow.pinned == Rows.fnFieldsWovenRow.pinnedBy) = true := by kernel_rfl
theorem c30 : (Rows.fnFieldsWovenRow.veiled == (Try.f22.params.toList ++ Rows.fnFieldsWovenSpec.plain.varTypes Try.prog ++ Try.f22.resultTypes.toList).any (Try.prog.veiledRec ·)) = true := by kernel_rfl
theorem c31 : Rows.fnFieldsWovenRow.veiledFits Try.prog Try.f22.params.toList (Try.f22.params.toList ++ Rows.fnFieldsWovenSpec.plain.varTypes Try.prog ++ Try.f22.resultTypes.toList) = true := by kernel_rfl
set_option maxRecDepth 100000 in
theorem closed : joinedFacts Try.prog 22 Try.f22 Rows.fnFieldsWovenSpec Rows.fnFieldsWovenRow = true := by unfold joinedFacts; exact (tt (tt (tt (tt (tt (tt (tt (tt (tt (tt (tt (tt (tt (tt (tt (tt (tt (tt (tt (tt (tt (tt (tt (tt (tt (tt (tt (tt (tt (tt (tt c0 laidOut_t) mapsRowed_t) c3) c4) c5) stops_t) c7) stopKnobs_t) c9) c10) c11) c12) c13) c14) c15) c16) c17) c18) c19) c20) c21) c22) c23) stopsHeard_t) mayEnter_t) c26) c27) c28) c29) c30) c31)
theorem named : Try.prog.funcNamed Rows.fnFieldsWovenRow.func = some 22 := by kernel_rfl
theorem inst : Try.f22.isInstance Try.prog Rows.fnFieldsWovenRow.origin Rows.fnFieldsWovenRow.targs := of_decide_eq_true (by kernel_rfl)
theorem wrap : Try.f22.isWrapper Try.prog Rows.fnFieldsWovenRow.wrapper Rows.fnFieldsWovenRow.mainSum := by unfold Func.isWrapper; first | (rw [if_pos (by decide +kernel)]; kernel_rfl) | (rw [if_neg (by decide +kernel)]; exact ⟨rfl, rfl⟩)

theorem over : Rows.fnFieldsWovenRow.holds Try.pinned (OpenSpec.ofChange Rows.fnFieldsWovenSpec) :=
  OpenClaim.holds_of_wide (p := Try.pinned) 22 Try.f22 rfl rfl rfl rfl rfl rfl rfl ⟨rfl, rfl, rfl, rfl, rfl⟩ rfl rfl rfl rfl rfl named Try.func22 closed inst wrap
    (fun os started H enc _ => lifted os started H enc)

theorem proved : Rows.FnFieldsWovenSaid := over
#print axioms proved
end Go.Proofs.Ytbjllfnjecggfaa.fnFieldsWoven
