/- Walks: math's words of a double's bits; math.Round, math.Abs, IsNaN, IsInf. -/
import Derived.Test.YtabiacfangjbeaaRows
import Derived.Laws.Externs
import Derived.Test.YtabiacfangjbeaaRh
import Derived.WalkKit
import Derived.WalkSpells
import Derived.WalkLawsBesides
namespace Go.Proofs.Ytabiacfangjbeaa
open Go.RowKit

theorem run_f64bits (b : Nat) (w : World) : (callFunc 20 #[.float .f64 b]).run Try.prog w = .ok (.value (.int .u64 b)) w := by
  rw [run_callFunc_extern (e := Extern.MathFloatBits.float64bits) Try.func20 (by kernel_rfl) (by kernel_rfl) (by kernel_rfl) (by kernel_rfl)]
  rfl
theorem run_f64frombits (b : Int) (w : World) : (callFunc 21 #[.int .u64 b]).run Try.prog w = .ok (.value (.float .f64 b.toNat)) w := by
  rw [run_callFunc_extern (e := Extern.MathFloatBits.float64frombits) Try.func21 (by kernel_rfl) (by kernel_rfl) (by kernel_rfl) (by kernel_rfl)]
  rfl
set_option maxHeartbeats 400000 in
theorem abs_any (b : Nat) (hb : b < 2 ^ 64) (w : World) :
    Calls Try.prog 17 #[.float .f64 b] w fun e w' => e = .returned (.float .f64 (b % 2 ^ 63)) ∧ w = w' := by
  have h1 := run_f64bits
  have h2 := run_f64frombits
  have h3 : bits .andNot .u64 (b : Int) 9223372036854775808 = ((b % 2 ^ 63 : Nat) : Int) := by
    have := Fl.bits_andNot (x := b) (y := 2 ^ 63) hb (by decide)
    rw [Fl.not_sign] at this
    exact this
  go_enter Try.func17, Try.ntmps17
  go_wp2
  go_ret
  exact ⟨rfl, rfl⟩
set_option maxRecDepth 100000 in
set_option maxHeartbeats 400000 in
theorem round_any (b : Nat) (w : World) :
    Calls Try.prog 15 #[.float .f64 b] w fun e w' => e = .returned (.float .f64 (Fl.rndB b).toNat) ∧ w = w' := by
  have h1 := run_f64bits
  have h2 := run_f64frombits
  go_enter Try.func15, Try.ntmps15
  go_wp2
  all_goals go_ret
  all_goals refine ⟨?_, rfl⟩
  all_goals unfold Fl.rndB
  · rename_i a c
    rw [if_pos a, if_pos (by simpa using c)]
    rfl
  · rename_i a c
    rw [if_pos a, if_neg (by simpa using c)]
    rfl
  · rename_i a c
    rw [if_neg (by omega), if_pos c]
    rfl
  · rename_i a c
    rw [if_neg (by omega), if_neg (by omega)]
    rfl
theorem isNaN_any (b : Nat) (w : World) :
    Calls Try.prog 22 #[.float .f64 b] w fun e w' => e = .returned (.bool (FloatKind.f64.format.order b b != some .eq)) ∧ w = w' := by
  go_enter Try.func22, Try.ntmps22
  go_wp2
  go_ret
  exact ⟨rfl, rfl⟩
set_option maxRecDepth 100000 in
theorem isInf_any (b : Nat) (hb : b < 2 ^ 64) (w : World) :
    Calls Try.prog 23 #[.float .f64 b, .int .i64 0] w fun e w' => e = .returned (.bool (FloatKind.f64.format.order (b % 2 ^ 63) 9218868437227405311 == some .gt)) ∧ w = w' := by
  have h := abs_any b hb
  clear hb
  go_enter Try.func23, Try.ntmps23
  go_wp2_with fail
  refine (h _).mono ?_
  rintro e w' ⟨rfl, rfl⟩
  go_wp2
  go_ret
  exact ⟨rfl, rfl⟩
set_option maxRecDepth 100000 in
theorem finite_any (b : Nat) (hb : b < 2 ^ 64) (w : World) :
    Calls Try.prog 16 #[.float .f64 b] w fun e w' => e = .returned (.bool (!(FloatKind.f64.format.order b b != some .eq) && !(FloatKind.f64.format.order (b % 2 ^ 63) 9218868437227405311 == some .gt))) ∧ w = w' := by
  have h := isInf_any b hb
  clear hb
  by_cases hn : (FloatKind.f64.format.order b b != some .eq) = true
  · go_enter Try.func16, Try.ntmps16
    go_wp2_with fail
    refine (isNaN_any b _).mono ?_
    rintro e w' ⟨rfl, rfl⟩
    rw [hn]
    go_wp2
    go_ret
    exact ⟨by rw [hn]; rfl, rfl⟩
  · have hn := eq_false_of_ne_true hn
    go_enter Try.func16, Try.ntmps16
    go_wp2_with fail
    refine (isNaN_any b _).mono ?_
    rintro e w' ⟨rfl, rfl⟩
    rw [hn]
    go_wp2_with fail
    refine (h _).mono ?_
    rintro e w' ⟨rfl, rfl⟩
    go_wp2
    go_ret
    exact ⟨by rw [hn]; rfl, rfl⟩
end Go.Proofs.Ytabiacfangjbeaa
