/- Walks: FromFixed; the law FnExactFromFixed. -/
import Derived.Test.YtabiacfangjbeaaRows
import Derived.WalkKit
import Derived.WalkSpells
import Derived.WalkLawsBesides
import Derived.Test.YtabiacfangjbeaaSf
import Derived.Lib.Hide
namespace Go.Proofs.Ytabiacfangjbeaa
open Go.RowKit

/-- what FromFixed gives -/
def fromv (n : Int) : Option Nat := if -1000000000 ≤ n ∧ n ≤ 1000000000 then Fl.fop .quo .f64 (Fl.fv .f64 (floatOfInt .f64 n)) (Fl.fv .f64 4652007308841189376) else Fl.fv .f64 0
set_option maxHeartbeats 400000 in
theorem fromI_any (n : Int) (w : World) : Calls Try.prog 7 #[.int .i64 n] w fun e w' => ∃ r, e = .returned (.float .f64 r) ∧ Fl.fv .f64 r = fromv n ∧ ∃ k, w' = w.drewN k := by
  by_cases h1 : -1000000000 ≤ n
  · by_cases h2 : n ≤ 1000000000
    · have HF := Lib.hid (show fromv n = _ from if_pos ⟨h1, h2⟩)
      go_enter Try.func7, Try.ntmps7
      go_wp2
      go_ret
      exact ⟨_, rfl, by rw [HF.out, Fl.fv_fbits], _, rfl⟩
    · have HF := Lib.hid (show fromv n = _ from if_neg (fun h => h2 h.2))
      go_enter Try.func7, Try.ntmps7
      go_wp2
      go_ret
      exact ⟨_, rfl, by rw [HF.out], 0, rfl⟩
  · have HF := Lib.hid (show fromv n = _ from if_neg (fun h => h1 h.1))
    go_enter Try.func7, Try.ntmps7
    go_wp2
    go_ret
    exact ⟨_, rfl, by rw [HF.out], 0, rfl⟩

set_option maxHeartbeats 400000 in
theorem fromS_any (n : Int) (w : World) : Calls Try.prog 6 #[.int .i64 n] w fun e w' => ∃ r, e = .returned (.float .f64 r) ∧ Fl.fv .f64 r = fromv n ∧ ∃ k, w' = w.drewN k := by
  by_cases h1 : -1000000000 ≤ n
  · by_cases h2 : n ≤ 1000000000
    · have HF := Lib.hid (show fromv n = _ from if_pos ⟨h1, h2⟩)
      go_enter Try.func6, Try.ntmps6
      go_wp2
      go_ret
      exact ⟨_, rfl, by rw [HF.out, Fl.fv_fbits], _, rfl⟩
    · have HF := Lib.hid (show fromv n = _ from if_neg (fun h => h2 h.2))
      go_enter Try.func6, Try.ntmps6
      go_wp2
      go_ret
      exact ⟨_, rfl, by rw [HF.out], 0, rfl⟩
  · have HF := Lib.hid (show fromv n = _ from if_neg (fun h => h1 h.1))
    go_enter Try.func6, Try.ntmps6
    go_wp2
    go_ret
    exact ⟨_, rfl, by rw [HF.out], 0, rfl⟩

set_option maxHeartbeats 1000000 in
theorem lawFromFixed (w : World) (n : Int) (_hn : (Lit.int .i64 n).wf = true) : Calls Try.prog 3 #[.int .i64 n] w fun e w' => e = .returned (.bool true) ∧ Below w.heap.size w w' := by
  clear _hn
  go_enter Try.func3, Try.ntmps3
  go_wp2_with fail
  refine (fromS_any n _).mono ?_
  rintro e w' ⟨r, rfl, hr, k, rfl⟩
  have HR := Lib.hid hr
  clear hr
  go_wp2_with fail
  refine (fromI_any n _).mono ?_
  rintro e w' ⟨q, rfl, hq, k', rfl⟩
  have HQ := Lib.hid hq
  clear hq
  go_wp2_with fail
  refine (sameF_any _ _ _ (HQ.out.trans HR.out.symm)).mono ?_
  rintro e w' ⟨rfl, k2, rfl⟩
  go_wp2_with fail
  go_ret
  exact ⟨rfl, by repeat (first | exact Below.refl _ _ | refine below_drewN ?_ _)⟩
end Go.Proofs.Ytabiacfangjbeaa
