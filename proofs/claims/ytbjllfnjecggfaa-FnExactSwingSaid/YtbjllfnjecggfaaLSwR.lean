/- The law FnExactSwing returns true for all arguments, and leaves them as they were. No condition. -/
import Derived.Test.YtbjllfnjecggfaaLSw
import Derived.Test.YtbjllfnjecggfaaOpen
import Derived.ProofKit
import Derived.OpenShut
import Derived.ShutString
import Derived.ChangeOld
import Derived.Carry
import Derived.Deep.Slices
namespace Go.Proofs.Ytbjllfnjecggfaa.fnExactSwing
open Go.ChangeShapes Go.WideShapes Go.ChangeAt Go.RowKit
open Go.ChangeMaps (open_string shut_string)
set_option linter.unusedVariables false

theorem own : ownKnob Try.prog.godebug = none := own_t
theorem laidOut : laidOutB Try.prog = true := laidOut_t

set_option maxRecDepth 100000 in
theorem lifted (os : Os) (started : os.Started) (H : Type) (enc : TypeId × Value → H) :
    ReturnsInHanded {} Try.checked os 23 .any (Rows.fnExactSwingSpec.pre6 enc Try.prog Try.f23 Rows.fnExactSwingRow.domain false) (Rows.fnExactSwingSpec.post enc Try.prog Try.f23 false true false false) := by
  refine returnsInHanded_of_change (C := Try.checked) own started (by kernel_rfl) Try.func23
    (ChangeSpec.witness6 (enc := enc) (C := Try.checked) false ⟨#[], #[.slice none 0 0, .slice none 0 0], []⟩ 8 (by kernel_rfl) (by kernel_rfl) (by kernel_rfl) (by kernel_rfl)) ?_
  intro W base args ds gs before hval0 hW hcnd _
  have hval : ∀ (j : Nat) t v, Try.f23.params[j]? = some t → args[j]? = some v → Value.okWide Try.prog W .any base t v := hval0
  have hW' := hW
  obtain ⟨p, q, hA0, hV, rfl, hfz, hnd⟩ := hW
  have hA : DataW.TrodAll enc Try.prog W 0 (fun _ => true) true Try.f23.params.toList args.toList ds p := hA0
  rw [Try.params23] at hA hval
  obtain ⟨v0, vs0, d0, ds0, p0, q0, hargs, rfl, rfl, h0, r0⟩ := trodAll_cons hA
  obtain ⟨v1, vs1, d1, ds1, p1, q1, rfl, rfl, rfl, h1, r1⟩ := trodAll_cons r0
  obtain ⟨rfl, rfl, rfl⟩ := trodAll_nil r1
  obtain rfl : args = #[v0, v1] := by cases args; simp_all
  obtain ⟨rfl, rfl⟩ := trodVars_none hV
  obtain ⟨a0, len0, cap0, rfl⟩ := okWide_slice Try.underlying22 (hval 0 22 v0 rfl rfl)
  have k0 := h0
  have lt0 : ∀ x ∈ p0, x.block < W.heap.size := by obtain ⟨m, hm⟩ := k0; exact DataW.trod_lt m _ _ _ hm
  obtain ⟨z0, w0⟩ := open_floats h0
  obtain ⟨a1, len1, cap1, rfl⟩ := okWide_slice Try.underlying22 (hval 1 22 v1 rfl rfl)
  have k1 := h1
  have lt1 : ∀ x ∈ p1, x.block < W.heap.size := by obtain ⟨m, hm⟩ := k1; exact DataW.trod_lt m _ _ _ hm
  obtain ⟨z1, w1⟩ := open_floats h1
  clear hA0 hval0
  refine (lawSw W a0 len0 cap0 z0 w0 a1 len1 cap1 z1 w1).mono fun e W' ⟨he, bel⟩ => ?_
  subst he
  exact ⟨_, rfl, _, _, _, [], _, [], hW', trodAll_mk1 (shut_bool Try.underlying4 _), (trodAll_cons_mk (Below.trod laidOut (by kernel_rfl) (of_decide_eq_true (by kernel_rfl)) k0 bel lt0) (trodAll_cons_mk (Below.trod laidOut (by kernel_rfl) (of_decide_eq_true (by kernel_rfl)) k1 bel lt1) trodAll_mk0)), rfl, bel.frame _, fun h => by cases h⟩

theorem c0 : Rows.fnExactSwingRow.wf (OpenSpec.ofChange Rows.fnExactSwingSpec) = true := by kernel_rfl
theorem c3 : Try.f23.params.all (Try.prog.readableRec ·) = true := by kernel_rfl
theorem c4 : namedTie Try.prog Rows.fnExactSwingRow.named Rows.fnExactSwingSpec.vars = true := by kernel_rfl
theorem c5 : (Rows.fnExactSwingRow.stops == []) = true := by kernel_rfl
theorem c7 : (Rows.fnExactSwingRow.knobs == []) = true := by kernel_rfl
theorem c9 : (Rows.fnExactSwingRow.inPlace == Try.prog.inPlace 23) = true := by kernel_rfl
theorem c10 : (Rows.fnExactSwingRow.unfollowed == Try.prog.unfollowed 23) = true := by kernel_rfl
theorem c11 : (Rows.fnExactSwingRow.recurses == Try.prog.recurses 23) = true := by kernel_rfl
theorem c12 : (Rows.fnExactSwingRow.named == Try.prog.varsNamed 23) = true := by kernel_rfl
theorem c13 : (Rows.fnExactSwingRow.maps == (Try.f23.params.toList ++ Rows.fnExactSwingSpec.plain.varTypes Try.prog).any (Try.prog.mapsRec ·)) = true := by kernel_rfl
theorem c14 : (Rows.fnExactSwingRow.ifaces == (Try.f23.params.toList ++ Rows.fnExactSwingSpec.plain.varTypes Try.prog).any (Try.prog.ifacesRec ·)) = true := by kernel_rfl
theorem c15 : (Rows.fnExactSwingRow.mapsOut == Try.prog.mapsAmong Try.f23.resultTypes.toList) = true := by kernel_rfl
theorem c16 : (Rows.fnExactSwingRow.loops == (Try.f23.params.toList ++ Rows.fnExactSwingSpec.plain.varTypes Try.prog).any (Try.prog.loopsFrom ·)) = true := by kernel_rfl
theorem c17 : (Rows.fnExactSwingRow.wideKeys == (Try.f23.params.toList ++ Rows.fnExactSwingSpec.plain.varTypes Try.prog ++ Try.f23.resultTypes.toList).any (Try.prog.wideKeysFrom ·)) = true := by kernel_rfl
theorem c18 : Rows.fnExactSwingSpec.vars.all (Try.prog.varReadable ·) = true := by kernel_rfl
theorem c19 : Try.f23.resultTypes.all (fun t => Try.prog.readableRec t && decide (t < Try.prog.types.size)) = true := by kernel_rfl
theorem c20 : (Rows.fnExactSwingRow.ifacesOut == Try.f23.resultTypes.toList.any (Try.prog.ifacesRec ·)) = true := by kernel_rfl
theorem c21 : (Rows.fnExactSwingRow.loopsOut == Try.f23.resultTypes.toList.any (Try.prog.loopsFrom ·)) = true := by kernel_rfl
theorem c22 : (Rows.fnExactSwingRow.plainKeys == Try.prog.plainKeys) = true := by rw [plainKeys_t]; rfl
theorem c23 : Rows.fnExactSwingRow.shortTexts.isNone = true := by kernel_rfl
theorem c26 : (Rows.fnExactSwingRow.lifted == Try.prog.liftsFinal) = true := by rw [liftsFinal_t]; rfl
theorem c27 : (Try.prog.make == some Rows.fnExactSwingRow.make) = true := by rw [make_t]; rfl
theorem c28 : (Rows.fnExactSwingRow.kinds == (if Rows.fnExactSwingRow.domain.isEmpty then [] else Try.f23.params.toList.map fun t => match Try.prog.underlying t with | some (.int k) => some k | _ => none)) = true := by kernel_rfl
theorem c29 : (Rows.fnExactSwingRow.pinned == Rows.fnExactSwingRow.pinnedBy) = true := by kernel_rfl
theorem c30 : (Rows.fnExactSwingRow.veiled == (Try.f23.params.toList ++ Rows.fnExactSwingSpec.plain.varTypes Try.prog ++ Try.f23.resultTypes.toList).any (Try.prog.veiledRec ·)) = true := by kernel_rfl
theorem c31 : Rows.fnExactSwingRow.veiledFits Try.prog Try.f23.params.toList (Try.f23.params.toList ++ Rows.fnExactSwingSpec.plain.varTypes Try.prog ++ Try.f23.resultTypes.toList) = true := by kernel_rfl
set_option maxRecDepth 100000 in
theorem closed : joinedFacts Try.prog 23 Try.f23 Rows.fnExactSwingSpec Rows.fnExactSwingRow = true := by unfold joinedFacts; exact (tt (tt (tt (tt (tt (tt (tt (tt (tt (tt (tt (tt (tt (tt (tt (tt (tt (tt (tt (tt (tt (tt (tt (tt (tt (tt (tt (tt (tt (tt (tt c0 laidOut_t) mapsRowed_t) c3) c4) c5) stops_t) c7) stopKnobs_t) c9) c10) c11) c12) c13) c14) c15) c16) c17) c18) c19) c20) c21) c22) c23) stopsHeard_t) mayEnter_t) c26) c27) c28) c29) c30) c31)
theorem named : Try.prog.funcNamed Rows.fnExactSwingRow.func = some 23 := by kernel_rfl
theorem inst : Try.f23.isInstance Try.prog Rows.fnExactSwingRow.origin Rows.fnExactSwingRow.targs := of_decide_eq_true (by kernel_rfl)
theorem wrap : Try.f23.isWrapper Try.prog Rows.fnExactSwingRow.wrapper Rows.fnExactSwingRow.mainSum := by unfold Func.isWrapper; first | (rw [if_pos (by decide +kernel)]; kernel_rfl) | (rw [if_neg (by decide +kernel)]; exact ⟨rfl, rfl⟩)

theorem over : Rows.fnExactSwingRow.holds Try.pinned (OpenSpec.ofChange Rows.fnExactSwingSpec) :=
  OpenClaim.holds_of_wide (p := Try.pinned) 23 Try.f23 rfl rfl rfl rfl rfl rfl rfl ⟨rfl, rfl, rfl, rfl, rfl⟩ rfl rfl rfl rfl rfl named Try.func23 closed inst wrap
    (fun os started H enc _ => lifted os started H enc)

theorem proved : Rows.FnExactSwingSaid := over
#print axioms proved
end Go.Proofs.Ytbjllfnjecggfaa.fnExactSwing
