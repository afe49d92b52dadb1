/- The law FnFixedParsed returns true for all arguments, and leaves them as they were. The condition, tied to the text of the program: the tables of powers of ten and of bits lie as their initialisers lay them. -/
import Derived.Test.YtpdpkgpjgockaaaDoorQg
import Derived.Test.YtpdpkgpjgockaaaDoorObT
import Derived.Test.YtpdpkgpjgockaaaDoorCl
import Derived.ProofKit
import Derived.OpenShut
import Derived.ShutString
import Derived.ChangeOld
import Derived.Carry
import Derived.Deep.Slices
import Derived.LaidMore
import Derived.Stop.Joined
import Derived.Stop.LaidErr
import Derived.SevenTiedAt
import Derived.Lib.LaidTab
import Derived.Test.YtpdpkgpjgockaaaDoorCards
import Derived.Test.YtpdpkgpjgockaaaDoorTie
namespace Go.Proofs.YtpdpkgpjgockaaaDoor.fnFixedParsed
open Go.ChangeShapes Go.WideShapes Go.ChangeAt Go.RowKit
open Go.ChangeMaps (open_string shut_string)
set_option linter.unusedVariables false

theorem own : ownKnob Tryd.prog.godebug = none := own_t
theorem laidOut : laidOutB Tryd.prog = true := laidOut_t

abbrev laidL : List (String × DataW Unit) := Rows.fnFixedParsedRow.laid
theorem door_met (os : Os) (args : Array Value) : laidMetH Tryd.prog laidL ((World.doorLaid Tryd.prog 34 os).forCall (fun _ _ => 0) ⟨#[], args, []⟩).memory :=
  laidMetH_of_parts3 (fuel := 8) (laidMet_of_run' 8 (by kernel_rfl) (by kernel_rfl)) (by kernel_rfl) (by kernel_rfl)
set_option maxRecDepth 100000 in
theorem lifted (os : Os) (started : os.Started) (H : Type) (enc : TypeId × Value → H) :
    ReturnsInHanded {} Tryd.checked os 4 .any (fun w args => (Rows.fnFixedParsedSpec.pre enc Tryd.prog Tryd.f4 [] false w args ∧ laidMetH Tryd.prog laidL w) ∧ sizedMet enc Tryd.prog Tryd.f4 (OpenSpec.ofChange Rows.fnFixedParsedSpec) false w args)
      (Rows.fnFixedParsedSpec.post enc Tryd.prog Tryd.f4 false true false false) := by
  refine returnsInHanded_of_change_and (C := Tryd.checked) (X := fun w _ => laidMetH Tryd.prog laidL w) (fun _ _ _ hh h => h.of_heap hh) own started (by kernel_rfl) Tryd.func4
    (ChangeSpec.witness_shaped (enc := enc) (C := Tryd.checked) (os := os) (X := fun w _ => laidMetH Tryd.prog laidL w) false (World.doorLaid Tryd.prog 34 os) #[.slice none 0 0] 8 rfl (World.shaped_of_RefB (by kernel_rfl) (by kernel_rfl)) (by kernel_rfl) (by kernel_rfl) (by kernel_rfl) (door_met os _)) ?_
  intro W base args ds gs before hval0 hW _ _ hL _
  have hval : ∀ (j : Nat) t v, Tryd.f4.params[j]? = some t → args[j]? = some v → Value.okWide Tryd.prog W .any base t v := hval0
  have hW' := hW
  obtain ⟨p, q, hA0, hV, rfl, hfz, hnd⟩ := hW
  have hA : DataW.TrodAll enc Tryd.prog W 0 (fun _ => true) true Tryd.f4.params.toList args.toList ds p := hA0
  rw [Tryd.params4] at hA hval
  obtain ⟨v0, vs0, d0, ds0, p0, q0, hargs, rfl, rfl, h0, r0⟩ := trodAll_cons hA
  obtain ⟨rfl, rfl, rfl⟩ := trodAll_nil r0
  obtain rfl : args = #[v0] := by cases args; simp_all
  obtain ⟨rfl, rfl⟩ := trodVars_none hV
  obtain ⟨a0, len0, cap0, rfl⟩ := okWide_slice Tryd.underlying22 (hval 0 22 v0 rfl rfl)
  have k0 := h0
  have lt0 : ∀ x ∈ p0, x.block < W.heap.size := by obtain ⟨m, hm⟩ := k0; exact DataW.trod_lt m _ _ _ hm
  obtain ⟨z0, w0⟩ := open_bytes h0
  clear hA0 hval0
  simp only [List.append_nil] at hW'
  have HL := tab_of_laid hL
  refine (lawFp W HL a0 len0 cap0 z0 w0).mono fun e W' ⟨he, bel⟩ => ?_
  subst he
  exact ⟨_, rfl, _, _, _, [], _, [], hW', trodAll_mk1 (shut_bool Tryd.underlying4 _), (trodAll_cons_mk (Below.trod laidOut (by kernel_rfl) (of_decide_eq_true (by kernel_rfl)) k0 bel lt0) trodAll_mk0), rfl, bel.frame _, fun h => by cases h⟩

theorem c0 : Rows.fnFixedParsedRow.wf (OpenSpec.ofChange Rows.fnFixedParsedSpec) = true := by kernel_rfl
theorem c3 : Tryd.f4.params.all (Tryd.prog.readableRec ·) = true := by kernel_rfl
theorem c4 : namedTie Tryd.prog Rows.fnFixedParsedRow.named Rows.fnFixedParsedSpec.vars = true := by kernel_rfl
theorem c5 : (Rows.fnFixedParsedRow.stops == []) = true := by kernel_rfl
theorem c7 : (Rows.fnFixedParsedRow.knobs == []) = true := by kernel_rfl
theorem c9 : (Rows.fnFixedParsedRow.inPlace == Tryd.prog.inPlace 4) = true := by kernel_rfl
theorem c10 : (Rows.fnFixedParsedRow.unfollowed == Tryd.prog.unfollowed 4) = true := by kernel_rfl
theorem c11 : (Rows.fnFixedParsedRow.recurses == Tryd.prog.recurses 4) = true := by kernel_rfl
theorem c12 : (Rows.fnFixedParsedRow.named == Tryd.prog.varsNamed 4) = true := by kernel_rfl
theorem c13 : (Rows.fnFixedParsedRow.maps == (Tryd.f4.params.toList ++ Rows.fnFixedParsedSpec.plain.varTypes Tryd.prog).any (Tryd.prog.mapsRec ·)) = true := by kernel_rfl
theorem c14 : (Rows.fnFixedParsedRow.ifaces == (Tryd.f4.params.toList ++ Rows.fnFixedParsedSpec.plain.varTypes Tryd.prog).any (Tryd.prog.ifacesRec ·)) = true := by kernel_rfl
theorem c15 : (Rows.fnFixedParsedRow.mapsOut == Tryd.prog.mapsAmong Tryd.f4.resultTypes.toList) = true := by kernel_rfl
theorem c16 : (Rows.fnFixedParsedRow.loops == (Tryd.f4.params.toList ++ Rows.fnFixedParsedSpec.plain.varTypes Tryd.prog).any (Tryd.prog.loopsFrom ·)) = true := by kernel_rfl
theorem c17 : (Rows.fnFixedParsedRow.wideKeys == (Tryd.f4.params.toList ++ Rows.fnFixedParsedSpec.plain.varTypes Tryd.prog ++ Tryd.f4.resultTypes.toList).any (Tryd.prog.wideKeysFrom ·)) = true := by kernel_rfl
theorem c18 : Rows.fnFixedParsedSpec.vars.all (Tryd.prog.varReadable ·) = true := by kernel_rfl
theorem c19 : Tryd.f4.resultTypes.all (fun t => Tryd.prog.readableRec t && decide (t < Tryd.prog.types.size)) = true := by kernel_rfl
theorem c20 : (Rows.fnFixedParsedRow.ifacesOut == Tryd.f4.resultTypes.toList.any (Tryd.prog.ifacesRec ·)) = true := by kernel_rfl
theorem c21 : (Rows.fnFixedParsedRow.loopsOut == Tryd.f4.resultTypes.toList.any (Tryd.prog.loopsFrom ·)) = true := by kernel_rfl
theorem c22 : (Rows.fnFixedParsedRow.plainKeys == Tryd.prog.plainKeys) = true := by rw [plainKeys_t]; rfl
theorem c23 : Rows.fnFixedParsedRow.shortTexts.isNone = true := by kernel_rfl
theorem c26 : (Rows.fnFixedParsedRow.lifted == Tryd.prog.liftsFinal) = true := by rw [liftsFinal_t]; rfl
theorem c27 : (Tryd.prog.make == some Rows.fnFixedParsedRow.make) = true := by rw [make_t]; rfl
theorem c28 : (Rows.fnFixedParsedRow.kinds == (if Rows.fnFixedParsedRow.domain.isEmpty then [] else Tryd.f4.params.toList.map fun t => match Tryd.prog.underlying t with | some (.int k) => some k | _ => none)) = true := by kernel_rfl
theorem c29 : (Rows.fnFixedParsedRow.pinned == Rows.fnFixedParsedRow.pinnedBy) = true := by kernel_rfl
theorem c30 : (Rows.fnFixedParsedRow.veiled == (Tryd.f4.params.toList ++ Rows.fnFixedParsedSpec.plain.varTypes Tryd.prog ++ Tryd.f4.resultTypes.toList).any (Tryd.prog.veiledRec ·)) = true := by kernel_rfl
theorem c31 : Rows.fnFixedParsedRow.veiledFits Tryd.prog Tryd.f4.params.toList (Tryd.f4.params.toList ++ Rows.fnFixedParsedSpec.plain.varTypes Tryd.prog ++ Tryd.f4.resultTypes.toList) = true := by kernel_rfl
set_option maxRecDepth 100000 in
theorem closed : joinedFacts Tryd.prog 4 Tryd.f4 Rows.fnFixedParsedSpec Rows.fnFixedParsedRow = true := by unfold joinedFacts; exact (tt (tt (tt (tt (tt (tt (tt (tt (tt (tt (tt (tt (tt (tt (tt (tt (tt (tt (tt (tt (tt (tt (tt (tt (tt (tt (tt (tt (tt (tt (tt c0 laidOut_t) mapsRowed_t) c3) c4) c5) stops_t) c7) stopKnobs_t) c9) c10) c11) c12) c13) c14) c15) c16) c17) c18) c19) c20) c21) c22) c23) stopsHeard_t) mayEnter_t) c26) c27) c28) c29) c30) c31)
theorem named : Tryd.prog.funcNamed Rows.fnFixedParsedRow.func = some 4 := by kernel_rfl
theorem inst : Tryd.f4.isInstance Tryd.prog Rows.fnFixedParsedRow.origin Rows.fnFixedParsedRow.targs := of_decide_eq_true (by kernel_rfl)
theorem wrap : Tryd.f4.isWrapper Tryd.prog Rows.fnFixedParsedRow.wrapper Rows.fnFixedParsedRow.mainSum := by unfold Func.isWrapper; first | (rw [if_pos (by decide +kernel)]; kernel_rfl) | (rw [if_neg (by decide +kernel)]; exact ⟨rfl, rfl⟩)

theorem over : Rows.fnFixedParsedRow.holds Tryd.pinned (OpenSpec.ofChange Rows.fnFixedParsedSpec) :=
  OpenClaim.holds_of_wide (p := Tryd.pinned) 4 Tryd.f4 rfl rfl rfl rfl rfl rfl rfl ⟨rfl, rfl, rfl, rfl, rfl⟩ rfl rfl rfl rfl rfl named Tryd.func4 closed inst wrap
    (fun os started H enc _ => lifted os started H enc)

theorem proved : Rows.FnFixedParsedCardSaid :=
  Claim7.holds_tied_plain_at .later [] [.data, .data, .data] true (true, "1846f012eb7669877cbe461628ed6e4562bcb85406df29745a2befd730a7590f") false
    over (fun _ h => by cases h) (by kernel_rfl) (fun _ h => by cases h) fnFixedParsed_row_tie rfl ⟨rfl, rfl⟩ (by kernel_rfl) rfl
    (fun f fn hf hfn => by
      obtain rfl : f = 4 := Option.some.inj (named.symm.trans hf) |>.symm
      obtain rfl : fn = Tryd.f4 := (Option.some.inj (Tryd.func4.symm.trans hfn)).symm
      exact ⟨by kernel_rfl, fun j t ht => by
        rw [Tryd.params4] at ht
        have hm := Array.mem_of_getElem? ht
        have hall : (Tryd.f4.params.toList.all fun u => !Tryd.prog.wantsStandIn u) = true := by kernel_rfl
        have h2 := List.all_eq_true.1 hall t (by rw [Tryd.params4]; simpa using hm)
        exact (show Tryd.prog.wantsStandIn t = false by simpa using h2)⟩)
    (by kernel_rfl)
#print axioms proved
end Go.Proofs.YtpdpkgpjgockaaaDoor.fnFixedParsed
