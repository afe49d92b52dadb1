/- Walks: is the code too long? -/
import Derived.Test.YtpdpkgpjgockaaaDoorOn
namespace Go.Proofs.YtpdpkgpjgockaaaDoor
open Go.RowKit
theorem big_no (a : Option Addr) (n cap : Nat) (w : World) (hn : n ≤ 1048576) : Calls Tryd.prog 13 #[.slice a n cap] w fun e w' => e = .returned (.bool false) ∧ w = w' := by
  go_enter Tryd.func13, Tryd.ntmps13
  go_wp2
  go_ret
  exact ⟨by show Ending.returned (.bool (decide (1048576 < (n : Int)))) = _; rw [decide_eq_false (by omega)], rfl⟩
theorem big_yes (a : Option Addr) (n cap : Nat) (w : World) (hn : 1048576 < n) : Calls Tryd.prog 13 #[.slice a n cap] w fun e w' => e = .returned (.bool true) ∧ w = w' := by
  go_enter Tryd.func13, Tryd.ntmps13
  go_wp2
  go_ret
  exact ⟨by show Ending.returned (.bool (decide (1048576 < (n : Int)))) = _; rw [decide_eq_true (by omega)], rfl⟩
end Go.Proofs.YtpdpkgpjgockaaaDoor
