/- Walk: the law FnExactFormatFixed returns true. -/
import Derived.Test.YtpdpkgpjgockaaaDoorFg
namespace Go.Proofs.YtpdpkgpjgockaaaDoor
open Go.RowKit
set_option maxRecDepth 100000 in
set_option maxHeartbeats 1000000 in
theorem lawFf (w : World) (ht : Tab w) (n : Int) (hn : (Lit.int .i64 n).wf = true) :
    Calls Tryd.prog 7 #[.int .i64 n] w fun e w' => e = .returned (.bool true) ∧ Below w.heap.size w w' := by
  obtain ⟨h0, h1⟩ := wf_bounds hn
  have HT := Lib.hid ht
  have S1 := Lib.hid (ffS n)
  have S2 := Lib.hid (ffI n)
  clear ht hn
  go_enter Tryd.func7, Tryd.ntmps7
  go_wp2_with fail
  refine (S1.out _).mono ?_
  rintro e w1 ⟨rfl, hb1⟩
  go_wp2_with fail
  refine (S2.out _ (HT.out.below hb1)).mono ?_
  rintro e w2 ⟨rfl, hb2⟩
  go_wp2
  go_ret
  exact ⟨rfl, hb1.trans (hb2.mono hb1.size)⟩
end Go.Proofs.YtpdpkgpjgockaaaDoor
