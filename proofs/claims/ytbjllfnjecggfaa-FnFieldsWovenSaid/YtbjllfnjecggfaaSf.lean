/- Walk: sameFloat answers true of two doubles that are the same, NaN's bits aside. -/
import Derived.Test.YtbjllfnjecggfaaRows
import Derived.Test.YtbjllfnjecggfaaFb
import Derived.WalkKit
import Derived.WalkSpells
import Derived.WalkLawsBesides
namespace Go.Proofs.Ytbjllfnjecggfaa
open Go.RowKit

set_option maxHeartbeats 400000 in
theorem sameF_any (a b : Nat) (w : World) (h : Fl.fv .f64 a = Fl.fv .f64 b) :
    Calls Try.prog 83 #[.float .f64 a, .float .f64 b] w fun e w' => e = .returned (.bool true) ∧ ∃ n, w' = w.drewN n := by
  cases ha : Fl.fv .f64 a with
  | none =>
    have h1 : (FloatKind.f64.format.order a a != some .eq) = true := by rw [bne, Fl.order_self_nan (k := .f64), ha]; rfl
    have h2 : (FloatKind.f64.format.order b b != some .eq) = true := by rw [bne, Fl.order_self_nan (k := .f64), ← h, ha]; rfl
    clear h ha
    go_enter Try.func83, Try.ntmps83
    go_wp2
    go_ret
    exact ⟨rfl, 0, rfl⟩
  | some c =>
    have e1 := (Fl.fv_some.1 ha).2
    have e2 := (Fl.fv_some.1 (h.symm.trans ha)).2
    subst e1
    subst e2
    have h1 : (FloatKind.f64.format.order b b != some .eq) = false := by rw [bne, Fl.order_self_nan (k := .f64), ha]; rfl
    have h3 : (FloatKind.f64.format.order b b == some .eq) = true := by rw [Fl.order_self_nan (k := .f64), ha]; rfl
    clear h ha
    by_cases h0 : (FloatKind.f64.format.order b 0 == some .eq) = true
    · go_enter Try.func83, Try.ntmps83
      go_wp2
      go_ret
      exact ⟨by simp [Fl.order_fbits], _, rfl⟩
    · have h0' : (FloatKind.f64.format.order b 0 == some .eq) = false := by simpa using h0
      clear h0
      go_enter Try.func83, Try.ntmps83
      go_wp2
      go_ret
      exact ⟨rfl, 0, rfl⟩


theorem sameF_below (a b : Nat) (w : World) (h : Fl.fv .f64 a = Fl.fv .f64 b) :
    Calls Try.prog 83 #[.float .f64 a, .float .f64 b] w fun e w' => e = .returned (.bool true) ∧ Below w.heap.size w w' :=
  (sameF_any a b w h).mono fun e w' ⟨he, n, hw⟩ => ⟨he, by rw [hw]; exact below_drewN (Below.refl _ _) n⟩

end Go.Proofs.Ytbjllfnjecggfaa
