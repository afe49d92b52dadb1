/- Closed facts of the translation that every row of this seat asks: laid once. The words of its head are taken apart by a lemma, not letter by letter. -/
import Derived.Test.YtabiacfangjbeaaRows
import Derived.ProofKit
namespace Go.Proofs.Ytabiacfangjbeaa

theorem words_one (r : List Char) : ∀ w : List Char, w.all (fun c => c != Char.ofNat 32) = true → wordsSigns (w ++ Char.ofNat 32 :: r) = w :: wordsSigns r := by
  intro w
  induction w with
  | nil => intro _; show wordsSigns (Char.ofNat 32 :: r) = _; rw [wordsSigns]
  | cons c w ih =>
    intro h
    rw [List.all_cons, Bool.and_eq_true] at h
    have hc : ¬ c = Char.ofNat 32 := by simpa using h.1
    have hi := ih h.2
    show wordsSigns (c :: (w ++ Char.ofNat 32 :: r)) = _
    rw [wordsSigns]
    · rw [hi]
    · exact hc

theorem lit0 : Try.progTables.initOrder = "harness b5e0c539110021b793eb1515efb5ab8c8913541cdbe693b343c891120e29ee16 cut at loop.example/g03326/laws.FnExactFromFixed loop.example/g03326/laws.FnExactToFixed loop.example/g03326/laws.FnFixedFloat" := rfl
theorem lit1 : Try.prog.initOrder = Try.progTables.initOrder := rfl
theorem lit : Try.prog.initOrder = "harness b5e0c539110021b793eb1515efb5ab8c8913541cdbe693b343c891120e29ee16 cut at loop.example/g03326/laws.FnExactFromFixed loop.example/g03326/laws.FnExactToFixed loop.example/g03326/laws.FnFixedFloat" := lit1.trans lit0
def Hd : List Char := [Char.ofNat 104, Char.ofNat 97, Char.ofNat 114, Char.ofNat 110, Char.ofNat 101, Char.ofNat 115, Char.ofNat 115]
def Sm_ : List Char := [Char.ofNat 98, Char.ofNat 53, Char.ofNat 101, Char.ofNat 48, Char.ofNat 99, Char.ofNat 53, Char.ofNat 51, Char.ofNat 57, Char.ofNat 49, Char.ofNat 49, Char.ofNat 48, Char.ofNat 48, Char.ofNat 50, Char.ofNat 49, Char.ofNat 98, Char.ofNat 55, Char.ofNat 57, Char.ofNat 51, Char.ofNat 101, Char.ofNat 98, Char.ofNat 49, Char.ofNat 53, Char.ofNat 49, Char.ofNat 53, Char.ofNat 101, Char.ofNat 102, Char.ofNat 98, Char.ofNat 53, Char.ofNat 97, Char.ofNat 98, Char.ofNat 56, Char.ofNat 99, Char.ofNat 56, Char.ofNat 57, Char.ofNat 49, Char.ofNat 51, Char.ofNat 53, Char.ofNat 52, Char.ofNat 49, Char.ofNat 99, Char.ofNat 100, Char.ofNat 98, Char.ofNat 101, Char.ofNat 54, Char.ofNat 57, Char.ofNat 51, Char.ofNat 98, Char.ofNat 51, Char.ofNat 52, Char.ofNat 51, Char.ofNat 99, Char.ofNat 56, Char.ofNat 57, Char.ofNat 49, Char.ofNat 49, Char.ofNat 50, Char.ofNat 48, Char.ofNat 101, Char.ofNat 50, Char.ofNat 57, Char.ofNat 101, Char.ofNat 101, Char.ofNat 49, Char.ofNat 54]
def Ct : List Char := [Char.ofNat 99, Char.ofNat 117, Char.ofNat 116]
def Rs : List Char := [Char.ofNat 97, Char.ofNat 116, Char.ofNat 32, Char.ofNat 108, Char.ofNat 111, Char.ofNat 111, Char.ofNat 112, Char.ofNat 46, Char.ofNat 101, Char.ofNat 120, Char.ofNat 97, Char.ofNat 109, Char.ofNat 112, Char.ofNat 108, Char.ofNat 101, Char.ofNat 47, Char.ofNat 103, Char.ofNat 48, Char.ofNat 51, Char.ofNat 51, Char.ofNat 50, Char.ofNat 54, Char.ofNat 47, Char.ofNat 108, Char.ofNat 97, Char.ofNat 119, Char.ofNat 115, Char.ofNat 46, Char.ofNat 70, Char.ofNat 110, Char.ofNat 69, Char.ofNat 120, Char.ofNat 97, Char.ofNat 99, Char.ofNat 116, Char.ofNat 70, Char.ofNat 114, Char.ofNat 111, Char.ofNat 109, Char.ofNat 70, Char.ofNat 105, Char.ofNat 120, Char.ofNat 101, Char.ofNat 100, Char.ofNat 32, Char.ofNat 108, Char.ofNat 111, Char.ofNat 111, Char.ofNat 112, Char.ofNat 46, Char.ofNat 101, Char.ofNat 120, Char.ofNat 97, Char.ofNat 109, Char.ofNat 112, Char.ofNat 108, Char.ofNat 101, Char.ofNat 47, Char.ofNat 103, Char.ofNat 48, Char.ofNat 51, Char.ofNat 51, Char.ofNat 50, Char.ofNat 54, Char.ofNat 47, Char.ofNat 108, Char.ofNat 97, Char.ofNat 119, Char.ofNat 115, Char.ofNat 46, Char.ofNat 70, Char.ofNat 110, Char.ofNat 69, Char.ofNat 120, Char.ofNat 97, Char.ofNat 99, Char.ofNat 116, Char.ofNat 84, Char.ofNat 111, Char.ofNat 70, Char.ofNat 105, Char.ofNat 120, Char.ofNat 101, Char.ofNat 100, Char.ofNat 32, Char.ofNat 108, Char.ofNat 111, Char.ofNat 111, Char.ofNat 112, Char.ofNat 46, Char.ofNat 101, Char.ofNat 120, Char.ofNat 97, Char.ofNat 109, Char.ofNat 112, Char.ofNat 108, Char.ofNat 101, Char.ofNat 47, Char.ofNat 103, Char.ofNat 48, Char.ofNat 51, Char.ofNat 51, Char.ofNat 50, Char.ofNat 54, Char.ofNat 47, Char.ofNat 108, Char.ofNat 97, Char.ofNat 119, Char.ofNat 115, Char.ofNat 46, Char.ofNat 70, Char.ofNat 110, Char.ofNat 70, Char.ofNat 105, Char.ofNat 120, Char.ofNat 101, Char.ofNat 100, Char.ofNat 70, Char.ofNat 108, Char.ofNat 111, Char.ofNat 97, Char.ofNat 116]
set_option maxRecDepth 100000 in
theorem lit2 : "harness b5e0c539110021b793eb1515efb5ab8c8913541cdbe693b343c891120e29ee16 cut at loop.example/g03326/laws.FnExactFromFixed loop.example/g03326/laws.FnExactToFixed loop.example/g03326/laws.FnFixedFloat" = String.ofList (Hd ++ Char.ofNat 32 :: (Sm_ ++ Char.ofNat 32 :: (Ct ++ Char.ofNat 32 :: Rs))) := by kernel_rfl
theorem harness_t : "harness".toList = Hd := (congrArg String.toList (show "harness" = String.ofList Hd from rfl)).trans String.toList_ofList
theorem cut_t : "cut".toList = Ct := (congrArg String.toList (show "cut" = String.ofList Ct from rfl)).trans String.toList_ofList
theorem head1 : Hd.all (fun c => c != Char.ofNat 32) = true := by decide +kernel
theorem head2 : Sm_.all (fun c => c != Char.ofNat 32) = true := by decide +kernel
theorem head3 : Ct.all (fun c => c != Char.ofNat 32) = true := by decide +kernel
theorem head4 : isSumSigns Sm_ = true := by decide +kernel
theorem words_head : behindMainWord (wordsSigns Try.prog.initOrder.toList) = Ct :: wordsSigns Rs := by
  rw [lit, lit2, String.toList_ofList, words_one _ _ head1, words_one _ _ head2, words_one _ _ head3, behindMainWord, if_pos]
  rw [harness_t, head4]
  simp

theorem strip_t (X : List (List Char)) : stripLifts liftWords (Ct :: X) = ([], Ct :: X) := by kernel_rfl
theorem gc_t : (Ct == "gc".toList) = false := by kernel_rfl
theorem spec_t : (Ct == "spec".toList) = false := by kernel_rfl
theorem carried_t : (Ct == "carried".toList) = false := by kernel_rfl
theorem ct_t : (Ct == "cut".toList) = true := by kernel_rfl
theorem mayEnter_of {P : Program} {X : List (List Char)} (h : behindMainWord (wordsSigns P.initOrder.toList) = Ct :: X) (h1 : P.laysLater = false) (h2 : P.bearsReflect = false) (h3 : P.doorFits [] = true) : P.mayEnter = true := by
  unfold Program.mayEnter
  rw [h]
  simp only [strip_t, gc_t, spec_t, carried_t, cut_t, h1, h2, h3]
  simp
theorem headLifts_of {P : Program} {X : List (List Char)} (h : behindMainWord (wordsSigns P.initOrder.toList) = Ct :: X) : P.headLifts = [] := by
  unfold Program.headLifts
  rw [h]
  simp only [strip_t]
  simp
theorem ne_some {a b : List Char} (h : (a == b) = false) : (some a == some b) = false := h
theorem liftsFinal_of {P : Program} {X : List (List Char)} (h : behindMainWord (wordsSigns P.initOrder.toList) = Ct :: X) : P.liftsFinal = false := by
  unfold Program.liftsFinal
  rw [h, headLifts_of h]
  simp only [List.head?_cons, ne_some carried_t]
  simp
theorem make_of {P : Program} {X : List (List Char)} (h : behindMainWord (wordsSigns P.initOrder.toList) = Ct :: X) : P.make = some .cut := by
  unfold Program.make
  rw [h]
  simp only [gc_t, spec_t, ct_t]
  simp
theorem laysLater_t : Try.prog.laysLater = false := by kernel_rfl
theorem bearsReflect_t : Try.prog.bearsReflect = false := by kernel_rfl
theorem doorFits_t : Try.prog.doorFits [] = true := by kernel_rfl
theorem mayEnter_t : Try.prog.mayEnter = true := mayEnter_of words_head laysLater_t bearsReflect_t doorFits_t
theorem liftsFinal_t : Try.prog.liftsFinal = false := liftsFinal_of words_head
theorem make_t : Try.prog.make = some .cut := make_of words_head
theorem laidOut_t : laidOutB Try.prog = true := by kernel_rfl
theorem mapsRowed_t : mapsRowed Try.prog = true := by kernel_rfl
theorem stops_t : (Try.prog.stops == []) = true := by kernel_rfl
theorem stopKnobs_t : (Try.prog.stopKnobs == []) = true := by kernel_rfl
theorem plainKeys_t : Try.prog.plainKeys = true := by kernel_rfl
theorem stopsHeard_t : Try.prog.stopsHeard = true := by kernel_rfl
theorem own_t : ownKnob Try.prog.godebug = none := by kernel_rfl
theorem tt {a b : Bool} (ha : a = true) (hb : b = true) : (a && b) = true := by rw [ha, hb]; rfl

end Go.Proofs.Ytabiacfangjbeaa
