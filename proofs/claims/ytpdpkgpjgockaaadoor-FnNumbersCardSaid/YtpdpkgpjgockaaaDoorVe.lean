/- Walks: the draw of a number to be told in digits. -/
import Derived.Test.YtpdpkgpjgockaaaDoorVd
namespace Go.Proofs.YtpdpkgpjgockaaaDoor
open Go.RowKit
set_option maxRecDepth 100000 in
set_option maxHeartbeats 1000000 in
theorem drawInt (a : Option Addr) (n cap : Nat) (w : World) (hB : By w.heap.size w a n) (hn : n ≤ 1048576) :
    Calls Tryd.prog 29 #[.slice a n cap] w (NPost w) := by
  go_enter Tryd.func29, Tryd.ntmps29
  go_wp2_with fail
  refine (new_any w.heap.size a n cap w hB hn (Nat.le_refl _)).mono ?_
  rintro e w1 ⟨g, rfl, hc, hg1, hg2, hb1⟩
  have HC := Lib.hid hc
  clear hc
  go_wp2_with fail
  refine (once_any _ g a n cap _ _ HC.out (by omega) (by omega)).mono ?_
  rintro e w2 ⟨b, rfl, hc, ho⟩
  have HC2 := Lib.hid hc
  have hb2 : Below w.heap.size w w2 := hb1.trans (below_of_only ho hb1.size (fun k hk => by omega))
  clear hc ho HC
  cases b
  · go_wp2_with fail
    refine (number_any _ g a n cap _ HC2.out).mono ?_
    rintro e w3 ⟨y, rfl, y0, y1, hc, ho⟩
    have hb3 : Below w.heap.size w w3 := hb2.trans (below_of_only ho hb2.size (fun k hk => by omega))
    clear hc ho
    go_wp2
    go_ret
    exact ⟨_, rfl, y0, y1, hb3⟩
  · go_wp2_with fail
    refine (below_any _ g a n cap _ _ HC2.out (by omega) (by omega)).mono ?_
    rintro e w3 ⟨x, rfl, x0, x1, hc, ho⟩
    rw [if_neg (by omega)] at x1
    have HC3 := Lib.hid hc
    have hb3 : Below w.heap.size w w3 := hb2.trans (below_of_only ho hb2.size (fun k hk => by omega))
    clear hc ho HC2
    go_wp2_with fail
    refine (below_any _ g a n cap _ _ HC3.out (by omega) (by omega)).mono ?_
    rintro e w4 ⟨y, rfl, y0, y1, hc, ho⟩
    rw [if_neg (by omega)] at y1
    have hb4 : Below w.heap.size w w4 := hb3.trans (below_of_only ho hb3.size (fun k hk => by omega))
    clear hc ho
    have hm := mul_bounds x0 (by omega) y0 (by omega)
    obtain ⟨m0, m1⟩ := hm
    have hm0 : -9223372036854775808 ≤ x * (y - 1000000) := by omega
    have hm1 : x * (y - 1000000) ≤ 9223372036854775807 := by omega
    go_wp2
    go_ret
    first
    | exact ⟨_, rfl, by omega, by omega, hb4⟩
    | (refine ⟨_, rfl, ?_, ?_, hb4⟩ <;> (rw [IntKind.wrap_i64]; omega))
    | (refine ⟨_, rfl, ?_, ?_, hb4⟩ <;> (unfold wrap64; omega))
end Go.Proofs.YtpdpkgpjgockaaaDoor
