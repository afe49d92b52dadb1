/- The law FnFixedText returns true for all arguments, and leaves them as they were. The condition, tied to the text of the program: the tables of powers of ten and of bits lie as their initialisers lay them. -/
import Derived.Test.YtpdpkgpjgockaaaDoorQf
import Derived.Test.YtpdpkgpjgockaaaDoorObT
import Derived.Test.YtpdpkgpjgockaaaDoorCl
import Derived.ProofKit
import Derived.OpenShut
import Derived.ShutString
import Derived.ChangeOld
import Derived.Carry
import Derived.Deep.Slices
import Derived.LaidMore
import Derived.Stop.Joined
import Derived.Stop.LaidErr
import Derived.SevenTiedAt
import Derived.Lib.LaidTab
import Derived.Test.YtpdpkgpjgockaaaDoorCards
import Derived.Test.YtpdpkgpjgockaaaDoorTie
namespace Go.Proofs.YtpdpkgpjgockaaaDoor.fnFixedText
open Go.ChangeShapes Go.WideShapes Go.ChangeAt Go.RowKit
open Go.ChangeMaps (open_string shut_string)
set_option linter.unusedVariables false

theorem own : ownKnob Tryd.prog.godebug = none := own_t
theorem laidOut : laidOutB Tryd.prog = true := laidOut_t

abbrev laidL : List (String × DataW Unit) := Rows.fnFixedTextRow.laid
theorem door_met (os : Os) (args : Array Value) : laidMetH Tryd.prog laidL ((World.doorLaid Tryd.prog 34 os).forCall (fun _ _ => 0) ⟨#[], args, []⟩).memory :=
  laidMetH_of_parts3 (fuel := 8) (laidMet_of_run' 8 (by kernel_rfl) (by kernel_rfl)) (by kernel_rfl) (by kernel_rfl)
set_option maxRecDepth 100000 in
theorem lifted (os : Os) (started : os.Started) (H : Type) (enc : TypeId × Value → H) :
    ReturnsInHanded {} Tryd.checked os 10 .any (fun w args => (Rows.fnFixedTextSpec.pre enc Tryd.prog Tryd.f10 [] false w args ∧ laidMetH Tryd.prog laidL w) ∧ sizedMet enc Tryd.prog Tryd.f10 (OpenSpec.ofChange Rows.fnFixedTextSpec) false w args)
      (Rows.fnFixedTextSpec.post enc Tryd.prog Tryd.f10 false true false false) := by
  refine returnsInHanded_of_change_and (C := Tryd.checked) (X := fun w _ => laidMetH Tryd.prog laidL w) (fun _ _ _ hh h => h.of_heap hh) own started (by kernel_rfl) Tryd.func10
    (ChangeSpec.witness_shaped (enc := enc) (C := Tryd.checked) (os := os) (X := fun w _ => laidMetH Tryd.prog laidL w) false (World.doorLaid Tryd.prog 34 os) #[.slice none 0 0] 8 rfl (World.shaped_of_RefB (by kernel_rfl) (by kernel_rfl)) (by kernel_rfl) (by kernel_rfl) (by kernel_rfl) (door_met os _)) ?_
  intro W base args ds gs before hval0 hW _ _ hL _
  have hval : ∀ (j : Nat) t v, Tryd.f10.params[j]? = some t → args[j]? = some v → Value.okWide Tryd.prog W .any base t v := hval0
  have hW' := hW
  obtain ⟨p, q, hA0, hV, rfl, hfz, hnd⟩ := hW
  have hA : DataW.TrodAll enc Tryd.prog W 0 (fun _ => true) true Tryd.f10.params.toList args.toList ds p := hA0
  rw [Tryd.params10] at hA hval
  obtain ⟨v0, vs0, d0, ds0, p0, q0, hargs, rfl, rfl, h0, r0⟩ := trodAll_cons hA
  obtain ⟨rfl, rfl, rfl⟩ := trodAll_nil r0
  obtain rfl : args = #[v0] := by cases args; simp_all
  obtain ⟨rfl, rfl⟩ := trodVars_none hV
  obtain ⟨a0, len0, cap0, rfl⟩ := okWide_slice Tryd.underlying22 (hval 0 22 v0 rfl rfl)
  have k0 := h0
  have lt0 : ∀ x ∈ p0, x.block < W.heap.size := by obtain ⟨m, hm⟩ := k0; exact DataW.trod_lt m _ _ _ hm
  obtain ⟨z0, w0⟩ := open_bytes h0
  clear hA0 hval0
  simp only [List.append_nil] at hW'
  have HL := tab_of_laid hL
  refine (lawFx W HL a0 len0 cap0 z0 w0).mono fun e W' ⟨he, bel⟩ => ?_
  subst he
  exact ⟨_, rfl, _, _, _, [], _, [], hW', trodAll_mk1 (shut_bool Tryd.underlying4 _), (trodAll_cons_mk (Below.trod laidOut (by kernel_rfl) (of_decide_eq_true (by kernel_rfl)) k0 bel lt0) trodAll_mk0), rfl, bel.frame _, fun h => by cases h⟩

theorem c0 : Rows.fnFixedTextRow.wf (OpenSpec.ofChange Rows.fnFixedTextSpec) = true := by kernel_rfl
theorem c3 : Tryd.f10.params.all (Tryd.prog.readableRec ·) = true := by kernel_rfl
theorem c4 : namedTie Tryd.prog Rows.fnFixedTextRow.named Rows.fnFixedTextSpec.vars = true := by kernel_rfl
theorem c5 : (Rows.fnFixedTextRow.stops == []) = true := by kernel_rfl
theorem c7 : (Rows.fnFixedTextRow.knobs == []) = true := by kernel_rfl
theorem c9 : (Rows.fnFixedTextRow.inPlace == Tryd.prog.inPlace 10) = true := by kernel_rfl
theorem c10 : (Rows.fnFixedTextRow.unfollowed == Tryd.prog.unfollowed 10) = true := by kernel_rfl
theorem c11 : (Rows.fnFixedTextRow.recurses == Tryd.prog.recurses 10) = true := by kernel_rfl
theorem c12 : (Rows.fnFixedTextRow.named == Tryd.prog.varsNamed 10) = true := by kernel_rfl
theorem c13 : (Rows.fnFixedTextRow.maps == (Tryd.f10.params.toList ++ Rows.fnFixedTextSpec.plain.varTypes Tryd.prog).any (Tryd.prog.mapsRec ·)) = true := by kernel_rfl
theorem c14 : (Rows.fnFixedTextRow.ifaces == (Tryd.f10.params.toList ++ Rows.fnFixedTextSpec.plain.varTypes Tryd.prog).any (Tryd.prog.ifacesRec ·)) = true := by kernel_rfl
theorem c15 : (Rows.fnFixedTextRow.mapsOut == Tryd.prog.mapsAmong Tryd.f10.resultTypes.toList) = true := by kernel_rfl
theorem c16 : (Rows.fnFixedTextRow.loops == (Tryd.f10.params.toList ++ Rows.fnFixedTextSpec.plain.varTypes Tryd.prog).any (Tryd.prog.loopsFrom ·)) = true := by kernel_rfl
theorem c17 : (Rows.fnFixedTextRow.wideKeys == (Tryd.f10.params.toList ++ Rows.fnFixedTextSpec.plain.varTypes Tryd.prog ++ Tryd.f10.resultTypes.toList).any (Tryd.prog.wideKeysFrom ·)) = true := by kernel_rfl
theorem c18 : Rows.fnFixedTextSpec.vars.all (Tryd.prog.varReadable ·) = true := by kernel_rfl
theorem c19 : Tryd.f10.resultTypes.all (fun t => Tryd.prog.readableRec t && decide (t < Tryd.prog.types.size)) = true := by kernel_rfl
theorem c20 : (Rows.fnFixedTextRow.ifacesOut == Tryd.f10.resultTypes.toList.any (Tryd.prog.ifacesRec ·)) = true := by kernel_rfl
theorem c21 : (Rows.fnFixedTextRow.loopsOut == Tryd.f10.resultTypes.toList.any (Tryd.prog.loopsFrom ·)) = true := by kernel_rfl
theorem c22 : (Rows.fnFixedTextRow.plainKeys == Tryd.prog.plainKeys) = true := by rw [plainKeys_t]; rfl
theorem c23 : Rows.fnFixedTextRow.shortTexts.isNone = true := by kernel_rfl
theorem c26 : (Rows.fnFixedTextRow.lifted == Tryd.prog.liftsFinal) = true := by rw [liftsFinal_t]; rfl
theorem c27 : (Tryd.prog.make == some Rows.fnFixedTextRow.make) = true := by rw [make_t]; rfl
theorem c28 : (Rows.fnFixedTextRow.kinds == (if Rows.fnFixedTextRow.domain.isEmpty then [] else Tryd.f10.params.toList.map fun t => match Tryd.prog.underlying t with | some (.int k) => some k | _ => none)) = true := by kernel_rfl
theorem c29 : (Rows.fnFixedTextRow.pinned == Rows.fnFixedTextRow.pinnedBy) = true := by kernel_rfl
theorem c30 : (Rows.fnFixedTextRow.veiled == (Tryd.f10.params.toList ++ Rows.fnFixedTextSpec.plain.varTypes Tryd.prog ++ Tryd.f10.resultTypes.toList).any (Tryd.prog.veiledRec ·)) = true := by kernel_rfl
theorem c31 : Rows.fnFixedTextRow.veiledFits Tryd.prog Tryd.f10.params.toList (Tryd.f10.params.toList ++ Rows.fnFixedTextSpec.plain.varTypes Tryd.prog ++ Tryd.f10.resultTypes.toList) = true := by kernel_rfl
set_option maxRecDepth 100000 in
theorem closed : joinedFacts Tryd.prog 10 Tryd.f10 Rows.fnFixedTextSpec Rows.fnFixedTextRow = true := by unfold joinedFacts; exact (tt (tt (tt (tt (tt (tt (tt (tt (tt (tt (tt (tt (tt (tt (tt (tt (tt (tt (tt (tt (tt (tt (tt (tt (tt (tt (tt (tt (tt (tt (tt c0 laidOut_t) mapsRowed_t) c3) c4) c5) stops_t) c7) stopKnobs_t) c9) c10) c11) c12) c13) c14) c15) c16) c17) c18) c19) c20) c21) c22) c23) stopsHeard_t) mayEnter_t) c26) c27) c28) c29) c30) c31)
theorem named : Tryd.prog.funcNamed Rows.fnFixedTextRow.func = some 10 := by kernel_rfl
theorem inst : Tryd.f10.isInstance Tryd.prog Rows.fnFixedTextRow.origin Rows.fnFixedTextRow.targs := of_decide_eq_true (by kernel_rfl)
theorem wrap : Tryd.f10.isWrapper Tryd.prog Rows.fnFixedTextRow.wrapper Rows.fnFixedTextRow.mainSum := by unfold Func.isWrapper; first | (rw [if_pos (by decide +kernel)]; kernel_rfl) | (rw [if_neg (by decide +kernel)]; exact ⟨rfl, rfl⟩)

theorem over : Rows.fnFixedTextRow.holds Tryd.pinned (OpenSpec.ofChange Rows.fnFixedTextSpec) :=
  OpenClaim.holds_of_wide (p := Tryd.pinned) 10 Tryd.f10 rfl rfl rfl rfl rfl rfl rfl ⟨rfl, rfl, rfl, rfl, rfl⟩ rfl rfl rfl rfl rfl named Tryd.func10 closed inst wrap
    (fun os started H enc _ => lifted os started H enc)

theorem proved : Rows.FnFixedTextCardSaid :=
  Claim7.holds_tied_plain_at .later [] [.data, .data, .data] true (true, "1846f012eb7669877cbe461628ed6e4562bcb85406df29745a2befd730a7590f") false
    over (fun _ h => by cases h) (by kernel_rfl) (fun _ h => by cases h) fnFixedText_row_tie rfl ⟨rfl, rfl⟩ (by kernel_rfl) rfl
    (fun f fn hf hfn => by
      obtain rfl : f = 10 := Option.some.inj (named.symm.trans hf) |>.symm
      obtain rfl : fn = Tryd.f10 := (Option.some.inj (Tryd.func10.symm.trans hfn)).symm
      exact ⟨by kernel_rfl, fun j t ht => by
        rw [Tryd.params10] at ht
        have hm := Array.mem_of_getElem? ht
        have hall : (Tryd.f10.params.toList.all fun u => !Tryd.prog.wantsStandIn u) = true := by kernel_rfl
        have h2 := List.all_eq_true.1 hall t (by rw [Tryd.params10]; simpa using hm)
        exact (show Tryd.prog.wantsStandIn t = false by simpa using h2)⟩)
    (by kernel_rfl)
#print axioms proved
end Go.Proofs.YtpdpkgpjgockaaaDoor.fnFixedText
