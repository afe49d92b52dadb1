/- Walks: the drawing of arguments: floats. -/
import Derived.Test.YtbjllfnjecggfaaUe
namespace Go.Proofs.Ytbjllfnjecggfaa
open Go.RowKit
set_option maxRecDepth 100000 in
set_option maxHeartbeats 1000000 in
theorem odd_any (B g : Nat) (a : Option Addr) (n cap : Nat) (w : World) (h : Cur B w g a n cap) :
    Calls Try.prog 142 #[.pointer (some ⟨g, 0, none⟩)] w fun e w' => ∃ x : Nat, e = .returned (.float .f64 x) ∧ Cur B w' g a n cap ∧ Only (fun j => g = j) w w' := by
  have HC := Lib.hid h
  clear h
  go_enter Try.func142, Try.ntmps142
  go_wp2_with fail
  refine (below_any B g a n cap _ _ HC.out (by omega) (by omega)).mono ?_
  rintro e w1 ⟨x, rfl, x0, x1, hc, ho⟩
  have HC1 := Lib.hid hc
  have HO := Lib.hid ho
  clear HC hc ho
  go_wp2_with fail
  refine (below_any B g a n cap _ _ HC1.out (by omega) (by omega)).mono ?_
  rintro e w2 ⟨y, rfl, y0, y1, hc, ho⟩
  replace HO := Lib.hid (HO.out.trans ho)
  have HC2 := Lib.hid hc
  clear HC1 hc ho
  go_wp2_with fail
  all_goals
    go_ret
    exact ⟨_, rfl, by repeat (first | exact HC2.out | refine Cur.drewN ?_ _), by repeat (first | exact HO.out | refine Only.drewN ?_ _)⟩
end Go.Proofs.Ytbjllfnjecggfaa
