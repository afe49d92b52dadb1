/- Closed facts of the translation that every row of this seat asks: laid once. The words of its head are taken apart by a lemma, not letter by letter. -/
import Derived.Test.YtpdpkgpjgockaaaDoorRows
import Derived.ProofKit
namespace Go.Proofs.YtpdpkgpjgockaaaDoor

theorem words_one (r : List Char) : ∀ w : List Char, w.all (fun c => c != Char.ofNat 32) = true → wordsSigns (w ++ Char.ofNat 32 :: r) = w :: wordsSigns r := by
  intro w
  induction w with
  | nil => intro _; show wordsSigns (Char.ofNat 32 :: r) = _; rw [wordsSigns]
  | cons c w ih =>
    intro h
    rw [List.all_cons, Bool.and_eq_true] at h
    have hc : ¬ c = Char.ofNat 32 := by simpa using h.1
    have hi := ih h.2
    show wordsSigns (c :: (w ++ Char.ofNat 32 :: r)) = _
    rw [wordsSigns]
    · rw [hi]
    · exact hc

theorem lit0 : Tryd.progTables.initOrder = "harness 1846f012eb7669877cbe461628ed6e4562bcb85406df29745a2befd730a7590f cut at loop.example/g03326/laws.FnHexText loop.example/g03326/laws.FnFixedParsed loop.example/g03326/laws.FnFieldsAgain loop.example/g03326/laws.FnExactFormatInt loop.example/g03326/laws.FnExactFormatFixed loop.example/g03326/laws.FnExactParseUint loop.example/g03326/laws.FnNumbers loop.example/g03326/laws.FnFixedText loop.example/g03326/laws.FnExactSplitFields loop.example/g03326/laws.FnExactParseFixed" := rfl
theorem lit1 : Tryd.prog.initOrder = Tryd.progTables.initOrder := rfl
theorem lit : Tryd.prog.initOrder = "harness 1846f012eb7669877cbe461628ed6e4562bcb85406df29745a2befd730a7590f cut at loop.example/g03326/laws.FnHexText loop.example/g03326/laws.FnFixedParsed loop.example/g03326/laws.FnFieldsAgain loop.example/g03326/laws.FnExactFormatInt loop.example/g03326/laws.FnExactFormatFixed loop.example/g03326/laws.FnExactParseUint loop.example/g03326/laws.FnNumbers loop.example/g03326/laws.FnFixedText loop.example/g03326/laws.FnExactSplitFields loop.example/g03326/laws.FnExactParseFixed" := lit1.trans lit0
def Hd : List Char := [Char.ofNat 104, Char.ofNat 97, Char.ofNat 114, Char.ofNat 110, Char.ofNat 101, Char.ofNat 115, Char.ofNat 115]
def Sm_ : List Char := [Char.ofNat 49, Char.ofNat 56, Char.ofNat 52, Char.ofNat 54, Char.ofNat 102, Char.ofNat 48, Char.ofNat 49, Char.ofNat 50, Char.ofNat 101, Char.ofNat 98, Char.ofNat 55, Char.ofNat 54, Char.ofNat 54, Char.ofNat 57, Char.ofNat 56, Char.ofNat 55, Char.ofNat 55, Char.ofNat 99, Char.ofNat 98, Char.ofNat 101, Char.ofNat 52, Char.ofNat 54, Char.ofNat 49, Char.ofNat 54, Char.ofNat 50, Char.ofNat 56, Char.ofNat 101, Char.ofNat 100, Char.ofNat 54, Char.ofNat 101, Char.ofNat 52, Char.ofNat 53, Char.ofNat 54, Char.ofNat 50, Char.ofNat 98, Char.ofNat 99, Char.ofNat 98, Char.ofNat 56, Char.ofNat 53, Char.ofNat 52, Char.ofNat 48, Char.ofNat 54, Char.ofNat 100, Char.ofNat 102, Char.ofNat 50, Char.ofNat 57, Char.ofNat 55, Char.ofNat 52, Char.ofNat 53, Char.ofNat 97, Char.ofNat 50, Char.ofNat 98, Char.ofNat 101, Char.ofNat 102, Char.ofNat 100, Char.ofNat 55, Char.ofNat 51, Char.ofNat 48, Char.ofNat 97, Char.ofNat 55, Char.ofNat 53, Char.ofNat 57, Char.ofNat 48, Char.ofNat 102]
def Ct : List Char := [Char.ofNat 99, Char.ofNat 117, Char.ofNat 116]
def Rs : List Char := [Char.ofNat 97, Char.ofNat 116, Char.ofNat 32, Char.ofNat 108, Char.ofNat 111, Char.ofNat 111, Char.ofNat 112, Char.ofNat 46, Char.ofNat 101, Char.ofNat 120, Char.ofNat 97, Char.ofNat 109, Char.ofNat 112, Char.ofNat 108, Char.ofNat 101, Char.ofNat 47, Char.ofNat 103, Char.ofNat 48, Char.ofNat 51, Char.ofNat 51, Char.ofNat 50, Char.ofNat 54, Char.ofNat 47, Char.ofNat 108, Char.ofNat 97, Char.ofNat 119, Char.ofNat 115, Char.ofNat 46, Char.ofNat 70, Char.ofNat 110, Char.ofNat 72, Char.ofNat 101, Char.ofNat 120, Char.ofNat 84, Char.ofNat 101, Char.ofNat 120, Char.ofNat 116, Char.ofNat 32, Char.ofNat 108, Char.ofNat 111, Char.ofNat 111, Char.ofNat 112, Char.ofNat 46, Char.ofNat 101, Char.ofNat 120, Char.ofNat 97, Char.ofNat 109, Char.ofNat 112, Char.ofNat 108, Char.ofNat 101, Char.ofNat 47, Char.ofNat 103, Char.ofNat 48, Char.ofNat 51, Char.ofNat 51, Char.ofNat 50, Char.ofNat 54, Char.ofNat 47, Char.ofNat 108, Char.ofNat 97, Char.ofNat 119, Char.ofNat 115, Char.ofNat 46, Char.ofNat 70, Char.ofNat 110, Char.ofNat 70, Char.ofNat 105, Char.ofNat 120, Char.ofNat 101, Char.ofNat 100, Char.ofNat 80, Char.ofNat 97, Char.ofNat 114, Char.ofNat 115, Char.ofNat 101, Char.ofNat 100, Char.ofNat 32, Char.ofNat 108, Char.ofNat 111, Char.ofNat 111, Char.ofNat 112, Char.ofNat 46, Char.ofNat 101, Char.ofNat 120, Char.ofNat 97, Char.ofNat 109, Char.ofNat 112, Char.ofNat 108, Char.ofNat 101, Char.ofNat 47, Char.ofNat 103, Char.ofNat 48, Char.ofNat 51, Char.ofNat 51, Char.ofNat 50, Char.ofNat 54, Char.ofNat 47, Char.ofNat 108, Char.ofNat 97, Char.ofNat 119, Char.ofNat 115, Char.ofNat 46, Char.ofNat 70, Char.ofNat 110, Char.ofNat 70, Char.ofNat 105, Char.ofNat 101, Char.ofNat 108, Char.ofNat 100, Char.ofNat 115, Char.ofNat 65, Char.ofNat 103, Char.ofNat 97, Char.ofNat 105, Char.ofNat 110, Char.ofNat 32, Char.ofNat 108, Char.ofNat 111, Char.ofNat 111, Char.ofNat 112, Char.ofNat 46, Char.ofNat 101, Char.ofNat 120, Char.ofNat 97, Char.ofNat 109, Char.ofNat 112, Char.ofNat 108, Char.ofNat 101, Char.ofNat 47, Char.ofNat 103, Char.ofNat 48, Char.ofNat 51, Char.ofNat 51, Char.ofNat 50, Char.ofNat 54, Char.ofNat 47, Char.ofNat 108, Char.ofNat 97, Char.ofNat 119, Char.ofNat 115, Char.ofNat 46, Char.ofNat 70, Char.ofNat 110, Char.ofNat 69, Char.ofNat 120, Char.ofNat 97, Char.ofNat 99, Char.ofNat 116, Char.ofNat 70, Char.ofNat 111, Char.ofNat 114, Char.ofNat 109, Char.ofNat 97, Char.ofNat 116, Char.ofNat 73, Char.ofNat 110, Char.ofNat 116, Char.ofNat 32, Char.ofNat 108, Char.ofNat 111, Char.ofNat 111, Char.ofNat 112, Char.ofNat 46, Char.ofNat 101, Char.ofNat 120, Char.ofNat 97, Char.ofNat 109, Char.ofNat 112, Char.ofNat 108, Char.ofNat 101, Char.ofNat 47, Char.ofNat 103, Char.ofNat 48, Char.ofNat 51, Char.ofNat 51, Char.ofNat 50, Char.ofNat 54, Char.ofNat 47, Char.ofNat 108, Char.ofNat 97, Char.ofNat 119, Char.ofNat 115, Char.ofNat 46, Char.ofNat 70, Char.ofNat 110, Char.ofNat 69, Char.ofNat 120, Char.ofNat 97, Char.ofNat 99, Char.ofNat 116, Char.ofNat 70, Char.ofNat 111, Char.ofNat 114, Char.ofNat 109, Char.ofNat 97, Char.ofNat 116, Char.ofNat 70, Char.ofNat 105, Char.ofNat 120, Char.ofNat 101, Char.ofNat 100, Char.ofNat 32, Char.ofNat 108, Char.ofNat 111, Char.ofNat 111, Char.ofNat 112, Char.ofNat 46, Char.ofNat 101, Char.ofNat 120, Char.ofNat 97, Char.ofNat 109, Char.ofNat 112, Char.ofNat 108, Char.ofNat 101, Char.ofNat 47, Char.ofNat 103, Char.ofNat 48, Char.ofNat 51, Char.ofNat 51, Char.ofNat 50, Char.ofNat 54, Char.ofNat 47, Char.ofNat 108, Char.ofNat 97, Char.ofNat 119, Char.ofNat 115, Char.ofNat 46, Char.ofNat 70, Char.ofNat 110, Char.ofNat 69, Char.ofNat 120, Char.ofNat 97, Char.ofNat 99, Char.ofNat 116, Char.ofNat 80, Char.ofNat 97, Char.ofNat 114, Char.ofNat 115, Char.ofNat 101, Char.ofNat 85, Char.ofNat 105, Char.ofNat 110, Char.ofNat 116, Char.ofNat 32, Char.ofNat 108, Char.ofNat 111, Char.ofNat 111, Char.ofNat 112, Char.ofNat 46, Char.ofNat 101, Char.ofNat 120, Char.ofNat 97, Char.ofNat 109, Char.ofNat 112, Char.ofNat 108, Char.ofNat 101, Char.ofNat 47, Char.ofNat 103, Char.ofNat 48, Char.ofNat 51, Char.ofNat 51, Char.ofNat 50, Char.ofNat 54, Char.ofNat 47, Char.ofNat 108, Char.ofNat 97, Char.ofNat 119, Char.ofNat 115, Char.ofNat 46, Char.ofNat 70, Char.ofNat 110, Char.ofNat 78, Char.ofNat 117, Char.ofNat 109, Char.ofNat 98, Char.ofNat 101, Char.ofNat 114, Char.ofNat 115, Char.ofNat 32, Char.ofNat 108, Char.ofNat 111, Char.ofNat 111, Char.ofNat 112, Char.ofNat 46, Char.ofNat 101, Char.ofNat 120, Char.ofNat 97, Char.ofNat 109, Char.ofNat 112, Char.ofNat 108, Char.ofNat 101, Char.ofNat 47, Char.ofNat 103, Char.ofNat 48, Char.ofNat 51, Char.ofNat 51, Char.ofNat 50, Char.ofNat 54, Char.ofNat 47, Char.ofNat 108, Char.ofNat 97, Char.ofNat 119, Char.ofNat 115, Char.ofNat 46, Char.ofNat 70, Char.ofNat 110, Char.ofNat 70, Char.ofNat 105, Char.ofNat 120, Char.ofNat 101, Char.ofNat 100, Char.ofNat 84, Char.ofNat 101, Char.ofNat 120, Char.ofNat 116, Char.ofNat 32, Char.ofNat 108, Char.ofNat 111, Char.ofNat 111, Char.ofNat 112, Char.ofNat 46, Char.ofNat 101, Char.ofNat 120, Char.ofNat 97, Char.ofNat 109, Char.ofNat 112, Char.ofNat 108, Char.ofNat 101, Char.ofNat 47, Char.ofNat 103, Char.ofNat 48, Char.ofNat 51, Char.ofNat 51, Char.ofNat 50, Char.ofNat 54, Char.ofNat 47, Char.ofNat 108, Char.ofNat 97, Char.ofNat 119, Char.ofNat 115, Char.ofNat 46, Char.ofNat 70, Char.ofNat 110, Char.ofNat 69, Char.ofNat 120, Char.ofNat 97, Char.ofNat 99, Char.ofNat 116, Char.ofNat 83, Char.ofNat 112, Char.ofNat 108, Char.ofNat 105, Char.ofNat 116, Char.ofNat 70, Char.ofNat 105, Char.ofNat 101, Char.ofNat 108, Char.ofNat 100, Char.ofNat 115, Char.ofNat 32, Char.ofNat 108, Char.ofNat 111, Char.ofNat 111, Char.ofNat 112, Char.ofNat 46, Char.ofNat 101, Char.ofNat 120, Char.ofNat 97, Char.ofNat 109, Char.ofNat 112, Char.ofNat 108, Char.ofNat 101, Char.ofNat 47, Char.ofNat 103, Char.ofNat 48, Char.ofNat 51, Char.ofNat 51, Char.ofNat 50, Char.ofNat 54, Char.ofNat 47, Char.ofNat 108, Char.ofNat 97, Char.ofNat 119, Char.ofNat 115, Char.ofNat 46, Char.ofNat 70, Char.ofNat 110, Char.ofNat 69, Char.ofNat 120, Char.ofNat 97, Char.ofNat 99, Char.ofNat 116, Char.ofNat 80, Char.ofNat 97, Char.ofNat 114, Char.ofNat 115, Char.ofNat 101, Char.ofNat 70, Char.ofNat 105, Char.ofNat 120, Char.ofNat 101, Char.ofNat 100]
set_option maxRecDepth 100000 in
theorem lit2 : "harness 1846f012eb7669877cbe461628ed6e4562bcb85406df29745a2befd730a7590f cut at loop.example/g03326/laws.FnHexText loop.example/g03326/laws.FnFixedParsed loop.example/g03326/laws.FnFieldsAgain loop.example/g03326/laws.FnExactFormatInt loop.example/g03326/laws.FnExactFormatFixed loop.example/g03326/laws.FnExactParseUint loop.example/g03326/laws.FnNumbers loop.example/g03326/laws.FnFixedText loop.example/g03326/laws.FnExactSplitFields loop.example/g03326/laws.FnExactParseFixed" = String.ofList (Hd ++ Char.ofNat 32 :: (Sm_ ++ Char.ofNat 32 :: (Ct ++ Char.ofNat 32 :: Rs))) := by kernel_rfl
theorem harness_t : "harness".toList = Hd := (congrArg String.toList (show "harness" = String.ofList Hd from rfl)).trans String.toList_ofList
theorem cut_t : "cut".toList = Ct := (congrArg String.toList (show "cut" = String.ofList Ct from rfl)).trans String.toList_ofList
theorem head1 : Hd.all (fun c => c != Char.ofNat 32) = true := by decide +kernel
theorem head2 : Sm_.all (fun c => c != Char.ofNat 32) = true := by decide +kernel
theorem head3 : Ct.all (fun c => c != Char.ofNat 32) = true := by decide +kernel
theorem head4 : isSumSigns Sm_ = true := by decide +kernel
theorem words_head : behindMainWord (wordsSigns Tryd.prog.initOrder.toList) = Ct :: wordsSigns Rs := by
  rw [lit, lit2, String.toList_ofList, words_one _ _ head1, words_one _ _ head2, words_one _ _ head3, behindMainWord, if_pos]
  rw [harness_t, head4]
  simp

theorem strip_t (X : List (List Char)) : stripLifts liftWords (Ct :: X) = ([], Ct :: X) := by kernel_rfl
theorem gc_t : (Ct == "gc".toList) = false := by kernel_rfl
theorem spec_t : (Ct == "spec".toList) = false := by kernel_rfl
theorem carried_t : (Ct == "carried".toList) = false := by kernel_rfl
theorem ct_t : (Ct == "cut".toList) = true := by kernel_rfl
theorem mayEnter_of {P : Program} {X : List (List Char)} (h : behindMainWord (wordsSigns P.initOrder.toList) = Ct :: X) (h1 : P.laysLater = false) (h2 : P.bearsReflect = false) (h3 : P.doorFits [] = true) : P.mayEnter = true := by
  unfold Program.mayEnter
  rw [h]
  simp only [strip_t, gc_t, spec_t, carried_t, cut_t, h1, h2, h3]
  simp
theorem headLifts_of {P : Program} {X : List (List Char)} (h : behindMainWord (wordsSigns P.initOrder.toList) = Ct :: X) : P.headLifts = [] := by
  unfold Program.headLifts
  rw [h]
  simp only [strip_t]
  simp
theorem ne_some {a b : List Char} (h : (a == b) = false) : (some a == some b) = false := h
theorem liftsFinal_of {P : Program} {X : List (List Char)} (h : behindMainWord (wordsSigns P.initOrder.toList) = Ct :: X) : P.liftsFinal = false := by
  unfold Program.liftsFinal
  rw [h, headLifts_of h]
  simp only [List.head?_cons, ne_some carried_t]
  simp
theorem make_of {P : Program} {X : List (List Char)} (h : behindMainWord (wordsSigns P.initOrder.toList) = Ct :: X) : P.make = some .cut := by
  unfold Program.make
  rw [h]
  simp only [gc_t, spec_t, ct_t]
  simp
theorem laysLater_t : Tryd.prog.laysLater = false := by kernel_rfl
theorem bearsReflect_t : Tryd.prog.bearsReflect = false := by kernel_rfl
theorem doorFits_t : Tryd.prog.doorFits [] = true := by kernel_rfl
theorem mayEnter_t : Tryd.prog.mayEnter = true := mayEnter_of words_head laysLater_t bearsReflect_t doorFits_t
theorem liftsFinal_t : Tryd.prog.liftsFinal = false := liftsFinal_of words_head
theorem make_t : Tryd.prog.make = some .cut := make_of words_head
theorem laidOut_t : laidOutB Tryd.prog = true := by kernel_rfl
theorem mapsRowed_t : mapsRowed Tryd.prog = true := by kernel_rfl
theorem stops_t : (Tryd.prog.stops == []) = true := by kernel_rfl
theorem stopKnobs_t : (Tryd.prog.stopKnobs == []) = true := by kernel_rfl
theorem plainKeys_t : Tryd.prog.plainKeys = true := by kernel_rfl
theorem stopsHeard_t : Tryd.prog.stopsHeard = true := by kernel_rfl
theorem own_t : ownKnob Tryd.prog.godebug = none := by kernel_rfl
theorem tt {a b : Bool} (ha : a = true) (hb : b = true) : (a && b) = true := by rw [ha, hb]; rfl

end Go.Proofs.YtpdpkgpjgockaaaDoor
