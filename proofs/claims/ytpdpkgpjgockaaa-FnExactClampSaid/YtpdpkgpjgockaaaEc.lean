/- Walk: the law FnExactClamp. -/
import Derived.Test.YtpdpkgpjgockaaaRows
import Derived.WalkKit
import Derived.WalkSpells
import Derived.WalkLawsBesides
namespace Go.Proofs.Ytpdpkgpjgockaaa
open Go.RowKit

set_option maxHeartbeats 1000000 in
theorem lawClamp (w : World) (n : Int) (_hn : (Lit.int .i64 n).wf = true) (lo : Int) (_hlo : (Lit.int .i64 lo).wf = true) (hi : Int) (_hhi : (Lit.int .i64 hi).wf = true) : Calls Try.prog 4 #[.int .i64 n, .int .i64 lo, .int .i64 hi] w fun e w' => e = .returned (.bool true) ∧ Below w.heap.size w w' := by
  clear _hn _hlo _hhi
  by_cases h1 : hi < lo
  · go_enter Try.func4, Try.ntmps4
    go_wp2
    go_ret
    exact ⟨rfl, Below.refl _ _⟩
  · by_cases h2 : n < lo
    · go_enter Try.func4, Try.ntmps4
      go_wp2
      go_ret
      exact ⟨rfl, Below.refl _ _⟩
    · by_cases h3 : hi < n
      · go_enter Try.func4, Try.ntmps4
        go_wp2
        go_ret
        exact ⟨rfl, Below.refl _ _⟩
      · go_enter Try.func4, Try.ntmps4
        go_wp2
        go_ret
        exact ⟨rfl, Below.refl _ _⟩
end Go.Proofs.Ytpdpkgpjgockaaa
