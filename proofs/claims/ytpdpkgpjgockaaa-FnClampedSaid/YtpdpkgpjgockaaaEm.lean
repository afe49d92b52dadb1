/- Walk: the law FnClamped returns true, joined. -/
import Derived.Test.YtpdpkgpjgockaaaEl
namespace Go.Proofs.Ytpdpkgpjgockaaa
open Go.RowKit

theorem big_no (a : Option Addr) (n cap : Nat) (w : World) (hn : n ≤ 1048576) : Calls Try.prog 12 #[.slice a n cap] w fun e w' => e = .returned (.bool false) ∧ w = w' := by
  go_enter Try.func12, Try.ntmps12
  go_wp2
  go_ret
  exact ⟨by show Ending.returned (.bool (decide (1048576 < (n : Int)))) = _; rw [decide_eq_false (by omega)], rfl⟩
theorem big_yes (a : Option Addr) (n cap : Nat) (w : World) (hn : 1048576 < n) : Calls Try.prog 12 #[.slice a n cap] w fun e w' => e = .returned (.bool true) ∧ w = w' := by
  go_enter Try.func12, Try.ntmps12
  go_wp2
  go_ret
  exact ⟨by show Ending.returned (.bool (decide (1048576 < (n : Int)))) = _; rw [decide_eq_true (by omega)], rfl⟩
set_option maxRecDepth 100000 in
set_option maxHeartbeats 1000000 in
theorem lawClamped_big (a : Option Addr) (n cap : Nat) (w : World) (hn : 1048576 < n) :
    Calls Try.prog 6 #[.slice a n cap] w fun e w' => e = .returned (.bool true) ∧ Below w.heap.size w w' := by
  go_enter Try.func6, Try.ntmps6
  go_wp2_with fail
  refine (big_yes a n cap w hn).mono ?_
  rintro e w1 ⟨rfl, rfl⟩
  go_wp2_with fail
  go_ret
  exact ⟨rfl, Below.refl _ _⟩
set_option maxRecDepth 100000 in
set_option maxHeartbeats 1000000 in
theorem lawClamped_small (a : Option Addr) (n cap : Nat) (w : World) (hB : By w.heap.size w a n) (hn : n ≤ 1048576) :
    Calls Try.prog 6 #[.slice a n cap] w fun e w' => e = .returned (.bool true) ∧ Below w.heap.size w w' := by
  have hk := drawClamp a n cap w hB hn
  clear hB
  go_enter Try.func6, Try.ntmps6
  go_wp2_with fail
  refine (big_no a n cap w hn).mono ?_
  rintro e w0 ⟨rfl, rfl⟩
  go_wp2_with fail
  refine hk.mono ?_
  rintro e w1 ⟨x, y, z, rfl, -, -, -, hb⟩
  by_cases h1 : z < y <;> by_cases h2 : x < y <;> by_cases h3 : z < x
  all_goals go_wp2
  all_goals
    first
    | (go_ret; exact ⟨rfl, hb⟩)
    | go_goals
theorem lawClamped (w : World) (a : Option Addr) (n cap : Nat) (_z : Nat) (hB : By w.heap.size w a n) :
    Calls Try.prog 6 #[.slice a n cap] w fun e w' => e = .returned (.bool true) ∧ Below w.heap.size w w' := by
  by_cases h : 1048576 < n
  · exact lawClamped_big a n cap w h
  · exact lawClamped_small a n cap w hB (by omega)
end Go.Proofs.Ytpdpkgpjgockaaa
