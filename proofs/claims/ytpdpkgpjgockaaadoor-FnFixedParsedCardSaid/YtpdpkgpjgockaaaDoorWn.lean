/- Walks: is a number in a range? -/
import Derived.Test.YtpdpkgpjgockaaaDoorOn
namespace Go.Proofs.YtpdpkgpjgockaaaDoor
open Go.RowKit

theorem inI_any (n lo hi : Int) (b : Bool) (w : World) (h : decide (lo ≤ n ∧ n ≤ hi) = b) : Calls Tryd.prog 49 #[.int .i64 n, .int .i64 lo, .int .i64 hi] w fun e w' => e = .returned (.bool b) ∧ w = w' := by
  have HB := Lib.hid h
  clear h
  by_cases h1 : lo ≤ n
  · by_cases h2 : n ≤ hi
    · have HN := Lib.hid ((decide_eq_true (show lo ≤ n ∧ n ≤ hi from ⟨h1, h2⟩)).symm.trans HB.out)
      go_enter Tryd.func49, Tryd.ntmps49
      go_wp2
      go_ret
      exact ⟨by rw [← HN.out]; rfl, rfl⟩
    · have HN := Lib.hid ((decide_eq_false (show ¬ (lo ≤ n ∧ n ≤ hi) from fun h => h2 h.2)).symm.trans HB.out)
      go_enter Tryd.func49, Tryd.ntmps49
      go_wp2
      go_ret
      exact ⟨by rw [← HN.out]; rfl, rfl⟩
  · have HN := Lib.hid ((decide_eq_false (show ¬ (lo ≤ n ∧ n ≤ hi) from fun h => h1 h.1)).symm.trans HB.out)
    go_enter Tryd.func49, Tryd.ntmps49
    go_wp2
    go_ret
    exact ⟨by rw [← HN.out]; rfl, rfl⟩

theorem withinI_any (n lo hi : Int) (b : Bool) (w : World) (h : decide (lo ≤ n ∧ n ≤ hi) = b) : Calls Tryd.prog 57 #[.int .i64 n, .int .i64 lo, .int .i64 hi] w fun e w' => e = .returned (.bool b) ∧ w = w' := by
  have HB := Lib.hid h
  clear h
  by_cases h1 : lo ≤ n
  · by_cases h2 : n ≤ hi
    · have HN := Lib.hid ((decide_eq_true (show lo ≤ n ∧ n ≤ hi from ⟨h1, h2⟩)).symm.trans HB.out)
      go_enter Tryd.func57, Tryd.ntmps57
      go_wp2
      go_ret
      exact ⟨by rw [← HN.out]; rfl, rfl⟩
    · have HN := Lib.hid ((decide_eq_false (show ¬ (lo ≤ n ∧ n ≤ hi) from fun h => h2 h.2)).symm.trans HB.out)
      go_enter Tryd.func57, Tryd.ntmps57
      go_wp2
      go_ret
      exact ⟨by rw [← HN.out]; rfl, rfl⟩
  · have HN := Lib.hid ((decide_eq_false (show ¬ (lo ≤ n ∧ n ≤ hi) from fun h => h1 h.1)).symm.trans HB.out)
    go_enter Tryd.func57, Tryd.ntmps57
    go_wp2
    go_ret
    exact ⟨by rw [← HN.out]; rfl, rfl⟩

theorem fixedOk_any (n : Int) (q : Bool) (w : World) (h : decide (-1000000000 ≤ n ∧ n ≤ 1000000000) = q) : Calls Tryd.prog 46 #[.int .i64 n] w fun e w' => e = .returned (.bool q) ∧ w = w' := by
  have H := Lib.hid h
  clear h
  go_enter Tryd.func46, Tryd.ntmps46
  go_wp2_with fail
  refine (withinI_any n _ _ q w H.out).mono ?_
  rintro e w1 ⟨rfl, rfl⟩
  go_wp2
  go_ret
  exact ⟨rfl, rfl⟩
end Go.Proofs.YtpdpkgpjgockaaaDoor
