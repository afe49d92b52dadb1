/- Walks: the draws of a number and of a number of thousandths. -/
import Derived.Test.YtabiacfangjbeaaUeF
namespace Go.Proofs.Ytabiacfangjbeaa
open Go.RowKit

def NPost (w : World) (e : Ending) (w' : World) : Prop := ∃ n : Int, e = .returned (.int .i64 n) ∧ -9223372036854775808 ≤ n ∧ n ≤ 9223372036854775807 ∧ Below w.heap.size w w'
theorem mul_bounds {a b : Int} (a0 : 0 ≤ a) (a1 : a ≤ 999999) (b0 : 0 ≤ b) (b1 : b ≤ 1999999) : -1000000000000 ≤ a * (b - 1000000) ∧ a * (b - 1000000) ≤ 1000000000000 := by
  have h1 : a * (b - 1000000) ≤ a * 1000000 := Int.mul_le_mul_of_nonneg_left (by omega) a0
  have h2 : a * (-1000000) ≤ a * (b - 1000000) := Int.mul_le_mul_of_nonneg_left (by omega) a0
  omega
set_option maxRecDepth 100000 in
set_option maxHeartbeats 1000000 in
theorem drawFixed (a : Option Addr) (n cap : Nat) (w : World) (hB : By w.heap.size w a n) (hn : n ≤ 1048576) :
    Calls Try.prog 18 #[.slice a n cap] w (NPost w) := by
  go_enter Try.func18, Try.ntmps18
  go_wp2_with fail
  refine (new_any w.heap.size a n cap w hB hn (Nat.le_refl _)).mono ?_
  rintro e w1 ⟨g, rfl, hc, hg1, hg2, hb1⟩
  have HC := Lib.hid hc
  clear hc
  go_wp2_with fail
  refine (below_any _ g a n cap _ _ HC.out (by omega) (by omega)).mono ?_
  rintro e w2 ⟨x, rfl, x0, x1, hc, ho⟩
  rw [if_neg (by omega)] at x1
  have HC2 := Lib.hid hc
  have hb2 : Below w.heap.size w w2 := hb1.trans (below_of_only ho hb1.size (fun k hk => by omega))
  clear hc ho HC
  have hx : x = 0 ∨ x = 1 ∨ 2 ≤ x := by omega
  rcases hx with rfl | rfl | hx
  · go_wp2_with fail
    refine (number_any _ g a n cap _ HC2.out).mono ?_
    rintro e w3 ⟨y, rfl, y0, y1, hc, ho⟩
    have hb3 : Below w.heap.size w w3 := hb2.trans (below_of_only ho hb2.size (fun k hk => by omega))
    clear hc ho
    go_wp2
    go_ret
    exact ⟨_, rfl, y0, y1, hb3⟩
  · go_wp2_with fail
    have hlt := HC2.out.lt
    refine (pick_any _ g a n cap w2.heap.size 7 _ (HC2.out.alloc hlt _) (by omega) (by omega) (by omega) (cells_ints w2 [1000000000, 1000000001, -1000000000, -1000000001, 999, 1000, -1] 3 (by decide))).mono ?_
    rintro e w3 ⟨y, rfl, y0, y1, hc, ho⟩
    have hb3 : Below w.heap.size w w3 := (hb2.alloc hb2.size _).trans (below_of_only ho (by have := hb2.size; simp; omega) (fun k hk => by omega))
    clear hc ho
    go_wp2
    go_ret
    exact ⟨_, rfl, y0, y1, hb3⟩
  · have d0 : x ≠ 0 := by omega
    have d1 : x ≠ 1 := by omega
    go_wp2_with fail
    refine (below_any _ g a n cap _ _ HC2.out (by omega) (by omega)).mono ?_
    rintro e w3 ⟨y, rfl, y0, y1, hc, ho⟩
    rw [if_neg (by omega)] at y1
    have hb3 : Below w.heap.size w w3 := hb2.trans (below_of_only ho hb2.size (fun k hk => by omega))
    clear hc ho
    go_wp2
    go_ret
    exact ⟨_, rfl, by omega, by omega, hb3⟩
end Go.Proofs.Ytabiacfangjbeaa
