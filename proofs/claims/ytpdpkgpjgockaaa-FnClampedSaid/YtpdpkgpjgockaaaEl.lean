/- Walk: the law FnClamped returns true. -/
import Derived.Test.YtpdpkgpjgockaaaUeT
namespace Go.Proofs.Ytpdpkgpjgockaaa
open Go.RowKit

def D3Post (w : World) (e : Ending) (w' : World) : Prop :=
  ∃ x y z : Int, e = .returned (.tuple #[.int .i64 x, .int .i64 y, .int .i64 z]) ∧ (Lit.int .i64 x).wf = true ∧ (Lit.int .i64 y).wf = true ∧ (Lit.int .i64 z).wf = true ∧ Below w.heap.size w w'
theorem wf64 {x : Int} (h : -9223372036854775808 ≤ x) (h1 : x ≤ 9223372036854775807) : (Lit.int .i64 x).wf = true := by
  simp only [Lit.wf, IntKind.min, IntKind.max, IntKind.signed, IntKind.bits, Bool.and_eq_true, decide_eq_true_eq]
  simp; omega
set_option maxRecDepth 100000 in
set_option maxHeartbeats 1000000 in
theorem drawClamp (a : Option Addr) (n cap : Nat) (w : World) (hB : By w.heap.size w a n) (hn : n ≤ 1048576) :
    Calls Try.prog 13 #[.slice a n cap] w (D3Post w) := by
  go_enter Try.func13, Try.ntmps13
  go_wp2_with fail
  refine (new_any w.heap.size a n cap w hB hn (Nat.le_refl _)).mono ?_
  rintro e w1 ⟨g, rfl, hc, hg1, hg2, hb1⟩
  have HC := Lib.hid hc
  clear hc
  go_wp2_with fail
  refine (once_any _ g a n cap _ _ HC.out (by omega) (by omega)).mono ?_
  rintro e w2 ⟨b, rfl, hc, ho⟩
  have HC2 := Lib.hid hc
  have hb2 : Below w.heap.size w w2 := hb1.trans (below_of_only ho hb1.size (fun k hk => by omega))
  clear hc ho HC
  cases b
  · go_wp2_with fail
    refine (below_any _ g a n cap _ _ HC2.out (by omega) (by omega)).mono ?_
    rintro e w3 ⟨x, rfl, x0, x1, hc, ho⟩
    rw [if_neg (by omega)] at x1
    have HC3 := Lib.hid hc
    have hb3 : Below w.heap.size w w3 := hb2.trans (below_of_only ho hb2.size (fun k hk => by omega))
    clear hc ho HC2
    go_wp2_with fail
    refine (below_any _ g a n cap _ _ HC3.out (by omega) (by omega)).mono ?_
    rintro e w4 ⟨y, rfl, y0, y1, hc, ho⟩
    rw [if_neg (by omega)] at y1
    have HC4 := Lib.hid hc
    have hb4 : Below w.heap.size w w4 := hb3.trans (below_of_only ho hb3.size (fun k hk => by omega))
    clear hc ho HC3
    go_wp2_with fail
    refine (below_any _ g a n cap _ _ HC4.out (by omega) (by omega)).mono ?_
    rintro e w5 ⟨z, rfl, z0, z1, hc, ho⟩
    rw [if_neg (by omega)] at z1
    have hb5 : Below w.heap.size w w5 := hb4.trans (below_of_only ho hb4.size (fun k hk => by omega))
    clear hc ho
    go_wp2_with fail
    go_ret3
    exact ⟨_, _, _, rfl, wf64 (by omega) (by omega), wf64 (by omega) (by omega), wf64 (by omega) (by omega), hb5⟩
  · go_wp2_with fail
    refine (number_any _ g a n cap _ HC2.out).mono ?_
    rintro e w3 ⟨x, rfl, x0, x1, hc, ho⟩
    have HC3 := Lib.hid hc
    have hb3 : Below w.heap.size w w3 := hb2.trans (below_of_only ho hb2.size (fun k hk => by omega))
    clear hc ho HC2
    go_wp2_with fail
    refine (number_any _ g a n cap _ HC3.out).mono ?_
    rintro e w4 ⟨y, rfl, y0, y1, hc, ho⟩
    have HC4 := Lib.hid hc
    have hb4 : Below w.heap.size w w4 := hb3.trans (below_of_only ho hb3.size (fun k hk => by omega))
    clear hc ho HC3
    go_wp2_with fail
    refine (number_any _ g a n cap _ HC4.out).mono ?_
    rintro e w5 ⟨z, rfl, z0, z1, hc, ho⟩
    have hb5 : Below w.heap.size w w5 := hb4.trans (below_of_only ho hb4.size (fun k hk => by omega))
    clear hc ho
    go_wp2_with fail
    go_ret3
    exact ⟨_, _, _, rfl, wf64 (by omega) (by omega), wf64 (by omega) (by omega), wf64 (by omega) (by omega), hb5⟩
end Go.Proofs.Ytpdpkgpjgockaaa
