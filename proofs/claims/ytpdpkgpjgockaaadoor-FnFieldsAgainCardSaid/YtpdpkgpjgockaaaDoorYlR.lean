/- The law FnFieldsAgain returns true for all arguments, and leaves them as they were. The condition, tied to the text of the program: the tables of powers of ten, of bits and of the encoding of characters lie as their initialisers lay them. -/
import Derived.Test.YtpdpkgpjgockaaaDoorYl
import Derived.Test.YtpdpkgpjgockaaaDoorObT
import Derived.Test.YtpdpkgpjgockaaaDoorCl
import Derived.ProofKit
import Derived.OpenShut
import Derived.ShutString
import Derived.ChangeOld
import Derived.Carry
import Derived.Deep.Slices
import Derived.LaidMore
import Derived.Lay
import Derived.MakeChecks
import Derived.Stop.Joined
import Derived.Stop.LaidErr
import Derived.SevenTiedAt
import Derived.Lib.LaidTab
import Derived.Test.YtpdpkgpjgockaaaDoorCards
import Derived.Test.YtpdpkgpjgockaaaDoorTie
namespace Go.Proofs.YtpdpkgpjgockaaaDoor.fnFieldsAgain
open Go.ChangeShapes Go.WideShapes Go.ChangeAt Go.RowKit
open Go.ChangeMaps (open_string shut_string)
set_option linter.unusedVariables false

theorem own : ownKnob Tryd.prog.godebug = none := own_t
theorem laidOut : laidOutB Tryd.prog = true := laidOut_t

abbrev laidL : List (String × DataW Unit) := Rows.fnFieldsAgainRow.laid
theorem door_met (os : Go.Os) (args : Array Value) : laidMetH Tryd.prog laidL ((World.laidAll Tryd.prog os laidL).forCall (fun _ _ => 0) ⟨#[], args, []⟩).memory := by
  rw [MakeChecks.laidMetH_plain _ _ _ (by kernel_rfl)]
  exact laidMet_laidAll args (by kernel_rfl) (by kernel_rfl)
set_option maxRecDepth 100000 in
theorem lifted (os : Go.Os) (started : os.Started) (H : Type) (enc : TypeId × Value → H) :
    ReturnsInHanded {} Tryd.checked os 5 .any (fun w args => (Rows.fnFieldsAgainSpec.pre enc Tryd.prog Tryd.f5 [] false w args ∧ laidMetH Tryd.prog laidL w) ∧ sizedMet enc Tryd.prog Tryd.f5 (OpenSpec.ofChange Rows.fnFieldsAgainSpec) false w args)
      (Rows.fnFieldsAgainSpec.post enc Tryd.prog Tryd.f5 false true false false) := by
  refine returnsInHanded_and_shaped (C := Tryd.checked) (X := fun w _ => laidMetH Tryd.prog laidL w) (fun _ _ _ hh h => h.of_heap hh) own started (by kernel_rfl) Tryd.func5
    (ChangeSpec.witness_shaped (enc := enc) (C := Tryd.checked) (os := os) (X := fun w _ => laidMetH Tryd.prog laidL w) false (World.laidAll Tryd.prog os laidL) #[.slice none 0 0] 8 (World.laidAll_os _ _ _) (World.shaped_of_ZipB (by kernel_rfl) (by kernel_rfl)) (by kernel_rfl) (by kernel_rfl) (by kernel_rfl) (door_met os _)) ?_
  intro W base args ds gs before hval0 hW _ _ hL hsh _
  have hval : ∀ (j : Nat) t v, Tryd.f5.params[j]? = some t → args[j]? = some v → Value.okWide Tryd.prog W .any base t v := hval0
  have hW' := hW
  obtain ⟨p, q, hA0, hV, rfl, hfz, hnd⟩ := hW
  have hA : DataW.TrodAll enc Tryd.prog W 0 (fun _ => true) true Tryd.f5.params.toList args.toList ds p := hA0
  rw [Tryd.params5] at hA hval
  obtain ⟨v0, vs0, d0, ds0, p0, q0, hargs, rfl, rfl, h0, r0⟩ := trodAll_cons hA
  obtain ⟨rfl, rfl, rfl⟩ := trodAll_nil r0
  obtain rfl : args = #[v0] := by cases args; simp_all
  obtain ⟨rfl, rfl⟩ := trodVars_none hV
  obtain ⟨a0, len0, cap0, rfl⟩ := okWide_slice Tryd.underlying22 (hval 0 22 v0 rfl rfl)
  have k0 := h0
  have lt0 : ∀ x ∈ p0, x.block < W.heap.size := by obtain ⟨m, hm⟩ := k0; exact DataW.trod_lt m _ _ _ hm
  obtain ⟨z0, w0⟩ := open_bytes h0
  clear hA0 hval0
  simp only [List.append_nil] at hW'
  have HL := tab_of_laid2 hL
  have HM := maxlen_of_shaped hsh
  refine (lawFa W HL HM a0 len0 cap0 z0 w0).mono fun e W' ⟨he, bel⟩ => ?_
  subst he
  exact ⟨_, rfl, _, _, _, [], _, [], hW', trodAll_mk1 (shut_bool Tryd.underlying4 _), (trodAll_cons_mk (Below.trod laidOut (by kernel_rfl) (of_decide_eq_true (by kernel_rfl)) k0 bel lt0) trodAll_mk0), rfl, bel.frame _, fun h => by cases h⟩

theorem c0 : Rows.fnFieldsAgainRow.wf (OpenSpec.ofChange Rows.fnFieldsAgainSpec) = true := by kernel_rfl
theorem c3 : Tryd.f5.params.all (Tryd.prog.readableRec ·) = true := by kernel_rfl
theorem c4 : namedTie Tryd.prog Rows.fnFieldsAgainRow.named Rows.fnFieldsAgainSpec.vars = true := by kernel_rfl
theorem c5 : (Rows.fnFieldsAgainRow.stops == []) = true := by kernel_rfl
theorem c7 : (Rows.fnFieldsAgainRow.knobs == []) = true := by kernel_rfl
theorem c9 : (Rows.fnFieldsAgainRow.inPlace == Tryd.prog.inPlace 5) = true := by kernel_rfl
theorem c10 : (Rows.fnFieldsAgainRow.unfollowed == Tryd.prog.unfollowed 5) = true := by kernel_rfl
theorem c11 : (Rows.fnFieldsAgainRow.recurses == Tryd.prog.recurses 5) = true := by kernel_rfl
theorem c12 : (Rows.fnFieldsAgainRow.named == Tryd.prog.varsNamed 5) = true := by kernel_rfl
theorem c13 : (Rows.fnFieldsAgainRow.maps == (Tryd.f5.params.toList ++ Rows.fnFieldsAgainSpec.plain.varTypes Tryd.prog).any (Tryd.prog.mapsRec ·)) = true := by kernel_rfl
theorem c14 : (Rows.fnFieldsAgainRow.ifaces == (Tryd.f5.params.toList ++ Rows.fnFieldsAgainSpec.plain.varTypes Tryd.prog).any (Tryd.prog.ifacesRec ·)) = true := by kernel_rfl
theorem c15 : (Rows.fnFieldsAgainRow.mapsOut == Tryd.prog.mapsAmong Tryd.f5.resultTypes.toList) = true := by kernel_rfl
theorem c16 : (Rows.fnFieldsAgainRow.loops == (Tryd.f5.params.toList ++ Rows.fnFieldsAgainSpec.plain.varTypes Tryd.prog).any (Tryd.prog.loopsFrom ·)) = true := by kernel_rfl
theorem c17 : (Rows.fnFieldsAgainRow.wideKeys == (Tryd.f5.params.toList ++ Rows.fnFieldsAgainSpec.plain.varTypes Tryd.prog ++ Tryd.f5.resultTypes.toList).any (Tryd.prog.wideKeysFrom ·)) = true := by kernel_rfl
theorem c18 : Rows.fnFieldsAgainSpec.vars.all (Tryd.prog.varReadable ·) = true := by kernel_rfl
theorem c19 : Tryd.f5.resultTypes.all (fun t => Tryd.prog.readableRec t && decide (t < Tryd.prog.types.size)) = true := by kernel_rfl
theorem c20 : (Rows.fnFieldsAgainRow.ifacesOut == Tryd.f5.resultTypes.toList.any (Tryd.prog.ifacesRec ·)) = true := by kernel_rfl
theorem c21 : (Rows.fnFieldsAgainRow.loopsOut == Tryd.f5.resultTypes.toList.any (Tryd.prog.loopsFrom ·)) = true := by kernel_rfl
theorem c22 : (Rows.fnFieldsAgainRow.plainKeys == Tryd.prog.plainKeys) = true := by rw [plainKeys_t]; rfl
theorem c23 : Rows.fnFieldsAgainRow.shortTexts.isNone = true := by kernel_rfl
theorem c26 : (Rows.fnFieldsAgainRow.lifted == Tryd.prog.liftsFinal) = true := by rw [liftsFinal_t]; rfl
theorem c27 : (Tryd.prog.make == some Rows.fnFieldsAgainRow.make) = true := by rw [make_t]; rfl
theorem c28 : (Rows.fnFieldsAgainRow.kinds == (if Rows.fnFieldsAgainRow.domain.isEmpty then [] else Tryd.f5.params.toList.map fun t => match Tryd.prog.underlying t with | some (.int k) => some k | _ => none)) = true := by kernel_rfl
theorem c29 : (Rows.fnFieldsAgainRow.pinned == Rows.fnFieldsAgainRow.pinnedBy) = true := by kernel_rfl
theorem c30 : (Rows.fnFieldsAgainRow.veiled == (Tryd.f5.params.toList ++ Rows.fnFieldsAgainSpec.plain.varTypes Tryd.prog ++ Tryd.f5.resultTypes.toList).any (Tryd.prog.veiledRec ·)) = true := by kernel_rfl
theorem c31 : Rows.fnFieldsAgainRow.veiledFits Tryd.prog Tryd.f5.params.toList (Tryd.f5.params.toList ++ Rows.fnFieldsAgainSpec.plain.varTypes Tryd.prog ++ Tryd.f5.resultTypes.toList) = true := by kernel_rfl
set_option maxRecDepth 100000 in
theorem closed : joinedFacts Tryd.prog 5 Tryd.f5 Rows.fnFieldsAgainSpec Rows.fnFieldsAgainRow = true := by unfold joinedFacts; exact (tt (tt (tt (tt (tt (tt (tt (tt (tt (tt (tt (tt (tt (tt (tt (tt (tt (tt (tt (tt (tt (tt (tt (tt (tt (tt (tt (tt (tt (tt (tt c0 laidOut_t) mapsRowed_t) c3) c4) c5) stops_t) c7) stopKnobs_t) c9) c10) c11) c12) c13) c14) c15) c16) c17) c18) c19) c20) c21) c22) c23) stopsHeard_t) mayEnter_t) c26) c27) c28) c29) c30) c31)
theorem named : Tryd.prog.funcNamed Rows.fnFieldsAgainRow.func = some 5 := by kernel_rfl
theorem inst : Tryd.f5.isInstance Tryd.prog Rows.fnFieldsAgainRow.origin Rows.fnFieldsAgainRow.targs := of_decide_eq_true (by kernel_rfl)
theorem wrap : Tryd.f5.isWrapper Tryd.prog Rows.fnFieldsAgainRow.wrapper Rows.fnFieldsAgainRow.mainSum := by unfold Func.isWrapper; first | (rw [if_pos (by decide +kernel)]; kernel_rfl) | (rw [if_neg (by decide +kernel)]; exact ⟨rfl, rfl⟩)

theorem over : Rows.fnFieldsAgainRow.holds Tryd.pinned (OpenSpec.ofChange Rows.fnFieldsAgainSpec) :=
  OpenClaim.holds_of_wide (p := Tryd.pinned) 5 Tryd.f5 rfl rfl rfl rfl rfl rfl rfl ⟨rfl, rfl, rfl, rfl, rfl⟩ rfl rfl rfl rfl rfl named Tryd.func5 closed inst wrap
    (fun os started H enc _ => lifted os started H enc)

theorem proved : Rows.FnFieldsAgainCardSaid :=
  Claim7.holds_tied_plain_at .later [] [.data, .data, .data, .data, .pinned] true (true, "1846f012eb7669877cbe461628ed6e4562bcb85406df29745a2befd730a7590f") false
    over (fun _ h => by cases h) (by kernel_rfl) (fun _ h => by cases h) fnFieldsAgain_row_tie rfl ⟨rfl, rfl⟩ (by kernel_rfl) rfl
    (fun f fn hf hfn => by
      obtain rfl : f = 5 := Option.some.inj (named.symm.trans hf) |>.symm
      obtain rfl : fn = Tryd.f5 := (Option.some.inj (Tryd.func5.symm.trans hfn)).symm
      exact ⟨by kernel_rfl, fun j t ht => by
        rw [Tryd.params5] at ht
        have hm := Array.mem_of_getElem? ht
        have hall : (Tryd.f5.params.toList.all fun u => !Tryd.prog.wantsStandIn u) = true := by kernel_rfl
        have h2 := List.all_eq_true.1 hall t (by rw [Tryd.params5]; simpa using hm)
        exact (show Tryd.prog.wantsStandIn t = false by simpa using h2)⟩)
    (by kernel_rfl)
#print axioms proved
end Go.Proofs.YtpdpkgpjgockaaaDoor.fnFieldsAgain
