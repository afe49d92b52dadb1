/- Walks: is the code too long? -/
import Derived.Test.YtabiacfangjbeaaOn
namespace Go.Proofs.Ytabiacfangjbeaa
open Go.RowKit
theorem big_no (a : Option Addr) (n cap : Nat) (w : World) (hn : n ≤ 1048576) : Calls Try.prog 11 #[.slice a n cap] w fun e w' => e = .returned (.bool false) ∧ w = w' := by
  go_enter Try.func11, Try.ntmps11
  go_wp2
  go_ret
  exact ⟨by show Ending.returned (.bool (decide (1048576 < (n : Int)))) = _; rw [decide_eq_false (by omega)], rfl⟩
theorem big_yes (a : Option Addr) (n cap : Nat) (w : World) (hn : 1048576 < n) : Calls Try.prog 11 #[.slice a n cap] w fun e w' => e = .returned (.bool true) ∧ w = w' := by
  go_enter Try.func11, Try.ntmps11
  go_wp2
  go_ret
  exact ⟨by show Ending.returned (.bool (decide (1048576 < (n : Int)))) = _; rw [decide_eq_true (by omega)], rfl⟩
end Go.Proofs.Ytabiacfangjbeaa
