/- Walk: the law FnExactConstants. -/
import Derived.Test.YtpdpkgpjgockaaaRows
import Derived.WalkKit
import Derived.WalkSpells
import Derived.WalkLawsBesides
namespace Go.Proofs.Ytpdpkgpjgockaaa
open Go.RowKit

set_option maxHeartbeats 1000000 in
theorem lawConst (w : World) : Calls Try.prog 3 #[] w fun e w' => e = .returned (.bool true) ∧ Below w.heap.size w w' := by
  go_enter Try.func3, Try.ntmps3
  go_wp2
  go_ret
  exact ⟨rfl, Below.refl _ _⟩
end Go.Proofs.Ytpdpkgpjgockaaa
