/- Walks: mod4, Carrier, sameComplex; the law FnExactCarrier. -/
import Derived.Test.YtbjllfnjecggfaaRows
import Derived.WalkKit
import Derived.WalkSpells
import Derived.WalkLawsBesides
import Derived.Test.YtbjllfnjecggfaaSf
import Derived.Lib.Hide
namespace Go.Proofs.Ytbjllfnjecggfaa
open Go.RowKit

theorem tmod4 (n : Int) : -3 ≤ n.tmod 4 ∧ n.tmod 4 ≤ 3 ∧ (n.tmod 4 + 4) % 4 = n % 4 := by
  have h := Int.tmod_eq_emod (a := n) (b := 4)
  split at h <;> omega
set_option maxHeartbeats 400000 in
theorem mod4_any (n m : Int) (w : World) (h : n % 4 = m) : Calls Try.prog 92 #[.int .i64 n] w fun e w' => e = .returned (.int .i64 m) ∧ w = w' := by
  obtain ⟨h1, h2, h3⟩ := tmod4 n
  have H := Lib.hid (h3.trans h)
  clear h3 h
  go_enter Try.func92, Try.ntmps92
  go_wp2
  go_ret
  exact ⟨by rw [H.out]; rfl, rfl⟩

set_option maxHeartbeats 400000 in
theorem smod4_any (n m : Int) (w : World) (h : n % 4 = m) : Calls Try.prog 123 #[.int .i64 n] w fun e w' => e = .returned (.int .i64 m) ∧ w = w' := by
  obtain ⟨h1, h2, h3⟩ := tmod4 n
  have H := Lib.hid (h3.trans h)
  clear h3 h
  go_enter Try.func123, Try.ntmps123
  go_wp2
  go_ret
  exact ⟨by rw [H.out]; rfl, rfl⟩

/-- the four phases -/
def carr (m : Int) : Value := if m = 1 then .complex .f32 0 1065353216 else if m = 2 then .complex .f32 3212836864 0 else if m = 3 then .complex .f32 0 3212836864 else .complex .f32 1065353216 0
set_option maxHeartbeats 400000 in
theorem carrier_any (n m : Int) (w : World) (h : n % 4 = m) : Calls Try.prog 38 #[.int .i64 n] w fun e w' => e = .returned (carr m) ∧ w = w' := by
  have hm : m = 0 ∨ m = 1 ∨ m = 2 ∨ m = 3 := by omega
  have H := Lib.hid h
  clear h
  rcases hm with rfl | rfl | rfl | rfl
  all_goals
    go_enter Try.func38, Try.ntmps38
    go_wp2_with (go_at_call 92; refine (mod4_any n _ _ H.out).mono ?_; rintro e w' ⟨rfl, rfl⟩)
    go_ret
    exact ⟨rfl, rfl⟩

set_option maxHeartbeats 400000 in
theorem scarrier_any (n m : Int) (w : World) (h : n % 4 = m) : Calls Try.prog 82 #[.int .i64 n] w fun e w' => e = .returned (carr m) ∧ w = w' := by
  have hm : m = 0 ∨ m = 1 ∨ m = 2 ∨ m = 3 := by omega
  have H := Lib.hid h
  clear h
  rcases hm with rfl | rfl | rfl | rfl
  all_goals
    go_enter Try.func82, Try.ntmps82
    go_wp2_with (go_at_call 123; refine (smod4_any n _ _ H.out).mono ?_; rintro e w' ⟨rfl, rfl⟩)
    go_ret
    exact ⟨rfl, rfl⟩

set_option maxHeartbeats 400000 in
theorem sameC_any (a b c d : Nat) (w : World) (h1 : Fl.fv .f64 a = Fl.fv .f64 c) (h2 : Fl.fv .f64 b = Fl.fv .f64 d) : Calls Try.prog 70 #[.complex .f64 a b, .complex .f64 c d] w fun e w' => e = .returned (.bool true) ∧ ∃ n, w' = w.drewN n := by
  have H1 := Lib.hid h1
  have H2 := Lib.hid h2
  clear h1 h2
  go_enter Try.func70, Try.ntmps70
  go_wp2_with (go_at_call 83; refine (sameF_any _ _ _ (by first | exact H1.out | exact H2.out)).mono ?_; rintro e w' ⟨rfl, n, rfl⟩)
  go_ret
  exact ⟨rfl, _, rfl⟩

set_option maxHeartbeats 400000 in
theorem lawCarrier (w : World) (n : Int) (_hn : (Lit.int .i64 n).wf = true) : Calls Try.prog 24 #[.int .i64 n] w fun e w' => e = .returned (.bool true) ∧ Below w.heap.size w w' := by
  clear _hn
  obtain ⟨m, hm⟩ : ∃ m, n % 4 = m := ⟨_, rfl⟩
  obtain ⟨re, im, hc⟩ : ∃ re im, carr m = .complex .f32 re im := by unfold carr; (repeat' split) <;> exact ⟨_, _, rfl⟩
  have HM := Lib.hid hm
  have HC := Lib.hid hc
  clear hm hc
  go_enter Try.func24, Try.ntmps24
  go_wp2_with fail
  refine (scarrier_any n m _ HM.out).mono ?_
  rintro e w' ⟨rfl, rfl⟩
  rw [HC.out]
  go_wp2_with fail
  refine (carrier_any n m _ HM.out).mono ?_
  rintro e w' ⟨rfl, rfl⟩
  rw [HC.out]
  go_wp2_with fail
  refine (sameC_any _ _ _ _ _ (by rw [Fl.fv_widen, Fl.fv_widen]) (by rw [Fl.fv_widen, Fl.fv_widen])).mono ?_
  rintro e w' ⟨rfl, k, rfl⟩
  go_wp2_with fail
  go_ret
  exact ⟨rfl, by repeat (first | exact Below.refl _ _ | refine below_drewN ?_ _)⟩
end Go.Proofs.Ytbjllfnjecggfaa
