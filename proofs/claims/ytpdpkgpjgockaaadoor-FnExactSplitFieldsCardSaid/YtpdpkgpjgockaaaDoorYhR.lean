/- The law FnExactSplitFields returns true for all arguments, and leaves them as they were. The condition, tied to the text of the program: the tables of the encoding of characters lie as their initialisers lay them. -/
import Derived.Test.YtpdpkgpjgockaaaDoorYh
import Derived.Test.YtpdpkgpjgockaaaDoorCl
import Derived.ProofKit
import Derived.OpenShut
import Derived.ShutString
import Derived.ChangeOld
import Derived.Carry
import Derived.Deep.Slices
import Derived.LaidMore
import Derived.Lay
import Derived.MakeChecks
import Derived.Stop.Joined
import Derived.Stop.LaidErr
import Derived.SevenTiedAt
import Derived.Lib.LaidTab
import Derived.Test.YtpdpkgpjgockaaaDoorCards
import Derived.Test.YtpdpkgpjgockaaaDoorTie
namespace Go.Proofs.YtpdpkgpjgockaaaDoor.fnExactSplitFields
open Go.ChangeShapes Go.WideShapes Go.ChangeAt Go.RowKit
open Go.ChangeMaps (open_string shut_string)
set_option linter.unusedVariables false

theorem own : ownKnob Tryd.prog.godebug = none := own_t
theorem laidOut : laidOutB Tryd.prog = true := laidOut_t

abbrev laidL : List (String × DataW Unit) := Rows.fnExactSplitFieldsRow.laid
theorem door_met (os : Go.Os) (args : Array Value) : laidMetH Tryd.prog laidL ((World.laidAll Tryd.prog os laidL).forCall (fun _ _ => 0) ⟨#[], args, []⟩).memory := by
  rw [MakeChecks.laidMetH_plain _ _ _ (by kernel_rfl)]
  exact laidMet_laidAll args (by kernel_rfl) (by kernel_rfl)
set_option maxRecDepth 100000 in
theorem lifted (os : Go.Os) (started : os.Started) (H : Type) (enc : TypeId × Value → H) :
    ReturnsInHanded {} Tryd.checked os 11 .any (fun w args => (Rows.fnExactSplitFieldsSpec.pre enc Tryd.prog Tryd.f11 [] false w args ∧ laidMetH Tryd.prog laidL w) ∧ sizedMet enc Tryd.prog Tryd.f11 (OpenSpec.ofChange Rows.fnExactSplitFieldsSpec) false w args)
      (Rows.fnExactSplitFieldsSpec.post enc Tryd.prog Tryd.f11 false true false false) := by
  refine returnsInHanded_and_shaped (C := Tryd.checked) (X := fun w _ => laidMetH Tryd.prog laidL w) (fun _ _ _ hh h => h.of_heap hh) own started (by kernel_rfl) Tryd.func11
    (ChangeSpec.witness_shaped (enc := enc) (C := Tryd.checked) (os := os) (X := fun w _ => laidMetH Tryd.prog laidL w) false (World.laidAll Tryd.prog os laidL) #[.string ⟨#[]⟩] 8 (World.laidAll_os _ _ _) (World.shaped_of_ZipB (by kernel_rfl) (by kernel_rfl)) (by kernel_rfl) (by kernel_rfl) (by kernel_rfl) (door_met os _)) ?_
  intro W base args ds gs before hval0 hW _ _ _ hsh _
  have hval : ∀ (j : Nat) t v, Tryd.f11.params[j]? = some t → args[j]? = some v → Value.okWide Tryd.prog W .any base t v := hval0
  have hW' := hW
  obtain ⟨p, q, hA0, hV, rfl, hfz, hnd⟩ := hW
  have hA : DataW.TrodAll enc Tryd.prog W 0 (fun _ => true) true Tryd.f11.params.toList args.toList ds p := hA0
  rw [Tryd.params11] at hA hval
  obtain ⟨v0, vs0, d0, ds0, p0, q0, hargs, rfl, rfl, h0, r0⟩ := trodAll_cons hA
  obtain ⟨rfl, rfl, rfl⟩ := trodAll_nil r0
  obtain rfl : args = #[v0] := by cases args; simp_all
  obtain ⟨rfl, rfl⟩ := trodVars_none hV
  obtain ⟨a0, rfl, rfl, rfl, w0⟩ := open_string Tryd.underlying9 (hval 0 9 v0 rfl rfl) h0
  clear hA0 hval0
  simp only [List.append_nil] at hW'
  have HM := maxlen_of_shaped hsh
  refine (lawSf W HM a0 w0).mono fun e W' ⟨he, bel⟩ => ?_
  subst he
  exact ⟨_, rfl, _, _, _, [], _, [], hW', trodAll_mk1 (shut_bool Tryd.underlying4 _), (trodAll_cons_mk (shut_string Tryd.underlying9 w0) trodAll_mk0), rfl, bel.frame _, fun h => by cases h⟩

theorem c0 : Rows.fnExactSplitFieldsRow.wf (OpenSpec.ofChange Rows.fnExactSplitFieldsSpec) = true := by kernel_rfl
theorem c3 : Tryd.f11.params.all (Tryd.prog.readableRec ·) = true := by kernel_rfl
theorem c4 : namedTie Tryd.prog Rows.fnExactSplitFieldsRow.named Rows.fnExactSplitFieldsSpec.vars = true := by kernel_rfl
theorem c5 : (Rows.fnExactSplitFieldsRow.stops == []) = true := by kernel_rfl
theorem c7 : (Rows.fnExactSplitFieldsRow.knobs == []) = true := by kernel_rfl
theorem c9 : (Rows.fnExactSplitFieldsRow.inPlace == Tryd.prog.inPlace 11) = true := by kernel_rfl
theorem c10 : (Rows.fnExactSplitFieldsRow.unfollowed == Tryd.prog.unfollowed 11) = true := by kernel_rfl
theorem c11 : (Rows.fnExactSplitFieldsRow.recurses == Tryd.prog.recurses 11) = true := by kernel_rfl
theorem c12 : (Rows.fnExactSplitFieldsRow.named == Tryd.prog.varsNamed 11) = true := by kernel_rfl
theorem c13 : (Rows.fnExactSplitFieldsRow.maps == (Tryd.f11.params.toList ++ Rows.fnExactSplitFieldsSpec.plain.varTypes Tryd.prog).any (Tryd.prog.mapsRec ·)) = true := by kernel_rfl
theorem c14 : (Rows.fnExactSplitFieldsRow.ifaces == (Tryd.f11.params.toList ++ Rows.fnExactSplitFieldsSpec.plain.varTypes Tryd.prog).any (Tryd.prog.ifacesRec ·)) = true := by kernel_rfl
theorem c15 : (Rows.fnExactSplitFieldsRow.mapsOut == Tryd.prog.mapsAmong Tryd.f11.resultTypes.toList) = true := by kernel_rfl
theorem c16 : (Rows.fnExactSplitFieldsRow.loops == (Tryd.f11.params.toList ++ Rows.fnExactSplitFieldsSpec.plain.varTypes Tryd.prog).any (Tryd.prog.loopsFrom ·)) = true := by kernel_rfl
theorem c17 : (Rows.fnExactSplitFieldsRow.wideKeys == (Tryd.f11.params.toList ++ Rows.fnExactSplitFieldsSpec.plain.varTypes Tryd.prog ++ Tryd.f11.resultTypes.toList).any (Tryd.prog.wideKeysFrom ·)) = true := by kernel_rfl
theorem c18 : Rows.fnExactSplitFieldsSpec.vars.all (Tryd.prog.varReadable ·) = true := by kernel_rfl
theorem c19 : Tryd.f11.resultTypes.all (fun t => Tryd.prog.readableRec t && decide (t < Tryd.prog.types.size)) = true := by kernel_rfl
theorem c20 : (Rows.fnExactSplitFieldsRow.ifacesOut == Tryd.f11.resultTypes.toList.any (Tryd.prog.ifacesRec ·)) = true := by kernel_rfl
theorem c21 : (Rows.fnExactSplitFieldsRow.loopsOut == Tryd.f11.resultTypes.toList.any (Tryd.prog.loopsFrom ·)) = true := by kernel_rfl
theorem c22 : (Rows.fnExactSplitFieldsRow.plainKeys == Tryd.prog.plainKeys) = true := by rw [plainKeys_t]; rfl
theorem c23 : Rows.fnExactSplitFieldsRow.shortTexts.isNone = true := by kernel_rfl
theorem c26 : (Rows.fnExactSplitFieldsRow.lifted == Tryd.prog.liftsFinal) = true := by rw [liftsFinal_t]; rfl
theorem c27 : (Tryd.prog.make == some Rows.fnExactSplitFieldsRow.make) = true := by rw [make_t]; rfl
theorem c28 : (Rows.fnExactSplitFieldsRow.kinds == (if Rows.fnExactSplitFieldsRow.domain.isEmpty then [] else Tryd.f11.params.toList.map fun t => match Tryd.prog.underlying t with | some (.int k) => some k | _ => none)) = true := by kernel_rfl
theorem c29 : (Rows.fnExactSplitFieldsRow.pinned == Rows.fnExactSplitFieldsRow.pinnedBy) = true := by kernel_rfl
theorem c30 : (Rows.fnExactSplitFieldsRow.veiled == (Tryd.f11.params.toList ++ Rows.fnExactSplitFieldsSpec.plain.varTypes Tryd.prog ++ Tryd.f11.resultTypes.toList).any (Tryd.prog.veiledRec ·)) = true := by kernel_rfl
theorem c31 : Rows.fnExactSplitFieldsRow.veiledFits Tryd.prog Tryd.f11.params.toList (Tryd.f11.params.toList ++ Rows.fnExactSplitFieldsSpec.plain.varTypes Tryd.prog ++ Tryd.f11.resultTypes.toList) = true := by kernel_rfl
set_option maxRecDepth 100000 in
theorem closed : joinedFacts Tryd.prog 11 Tryd.f11 Rows.fnExactSplitFieldsSpec Rows.fnExactSplitFieldsRow = true := by unfold joinedFacts; exact (tt (tt (tt (tt (tt (tt (tt (tt (tt (tt (tt (tt (tt (tt (tt (tt (tt (tt (tt (tt (tt (tt (tt (tt (tt (tt (tt (tt (tt (tt (tt c0 laidOut_t) mapsRowed_t) c3) c4) c5) stops_t) c7) stopKnobs_t) c9) c10) c11) c12) c13) c14) c15) c16) c17) c18) c19) c20) c21) c22) c23) stopsHeard_t) mayEnter_t) c26) c27) c28) c29) c30) c31)
theorem named : Tryd.prog.funcNamed Rows.fnExactSplitFieldsRow.func = some 11 := by kernel_rfl
theorem inst : Tryd.f11.isInstance Tryd.prog Rows.fnExactSplitFieldsRow.origin Rows.fnExactSplitFieldsRow.targs := of_decide_eq_true (by kernel_rfl)
theorem wrap : Tryd.f11.isWrapper Tryd.prog Rows.fnExactSplitFieldsRow.wrapper Rows.fnExactSplitFieldsRow.mainSum := by unfold Func.isWrapper; first | (rw [if_pos (by decide +kernel)]; kernel_rfl) | (rw [if_neg (by decide +kernel)]; exact ⟨rfl, rfl⟩)

theorem over : Rows.fnExactSplitFieldsRow.holds Tryd.pinned (OpenSpec.ofChange Rows.fnExactSplitFieldsSpec) :=
  OpenClaim.holds_of_wide (p := Tryd.pinned) 11 Tryd.f11 rfl rfl rfl rfl rfl rfl rfl ⟨rfl, rfl, rfl, rfl, rfl⟩ rfl rfl rfl rfl rfl named Tryd.func11 closed inst wrap
    (fun os started H enc _ => lifted os started H enc)

theorem proved : Rows.FnExactSplitFieldsCardSaid :=
  Claim7.holds_tied_plain_at .later [] [.data, .pinned] true (true, "1846f012eb7669877cbe461628ed6e4562bcb85406df29745a2befd730a7590f") false
    over (fun _ h => by cases h) (by kernel_rfl) (fun _ h => by cases h) fnExactSplitFields_row_tie rfl ⟨rfl, rfl⟩ (by kernel_rfl) rfl
    (fun f fn hf hfn => by
      obtain rfl : f = 11 := Option.some.inj (named.symm.trans hf) |>.symm
      obtain rfl : fn = Tryd.f11 := (Option.some.inj (Tryd.func11.symm.trans hfn)).symm
      exact ⟨by kernel_rfl, fun j t ht => by
        rw [Tryd.params11] at ht
        have hm := Array.mem_of_getElem? ht
        have hall : (Tryd.f11.params.toList.all fun u => !Tryd.prog.wantsStandIn u) = true := by kernel_rfl
        have h2 := List.all_eq_true.1 hall t (by rw [Tryd.params11]; simpa using hm)
        exact (show Tryd.prog.wantsStandIn t = false by simpa using h2)⟩)
    (by kernel_rfl)
#print axioms proved
end Go.Proofs.YtpdpkgpjgockaaaDoor.fnExactSplitFields
