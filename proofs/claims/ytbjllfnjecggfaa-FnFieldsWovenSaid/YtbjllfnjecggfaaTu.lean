/- Walk: the law FnCarrierTurns (under way): its draw. -/
import Derived.Test.YtbjllfnjecggfaaUh
import Derived.StillTailTactics
namespace Go.Proofs.Ytbjllfnjecggfaa
open Go.RowKit
theorem wf_wrap (z : Int) : (Lit.int .i64 (IntKind.i64.wrap z)).wf = true := by
  rw [IntKind.wrap_i64]
  simp only [Lit.wf, IntKind.min, IntKind.max, IntKind.signed, IntKind.bits, Bool.and_eq_true, decide_eq_true_eq]
  simp; omega
def DnPost (w : World) (e : Ending) (w' : World) : Prop :=
  ∃ (y z : Nat) (k : Int), e = .returned (.tuple #[.complex .f32 y z, .int .i64 k]) ∧ (Lit.int .i64 k).wf = true ∧ Below w.heap.size w w'
set_option maxRecDepth 100000 in
set_option maxHeartbeats 1000000 in
theorem drawCarried (a : Option Addr) (n cap : Nat) (w : World) (hB : By w.heap.size w a n) (hn : n ≤ 1048576) :
    Calls Try.prog 36 #[.slice a n cap] w (DnPost w) := by
  go_enter Try.func36, Try.ntmps36
  go_wp2_with fail
  refine (new_any w.heap.size a n cap w hB hn (Nat.le_refl _)).mono ?_
  rintro e w1 ⟨g, rfl, hc, hg1, hg2, hb1⟩
  have HC := Lib.hid hc
  clear hc
  go_wp2_with fail
  refine (cell_any _ g a n cap _ HC.out).mono ?_
  rintro e w2 ⟨x, y, z, rfl, hc, ho⟩
  have HC2 := Lib.hid hc
  have hb2 : Below w.heap.size w w2 := hb1.trans (below_of_only ho hb1.size (fun k hk => by omega))
  clear hc ho HC
  go_wp2_with fail
  have hl2 := HC2.out.lt
  go_region_with (refine (number_any w.heap.size g a n cap _ (by exact HC2.out.alloc hl2 _)).mono ?_; rintro e w3 ⟨k, rfl, k0, k1, hc, ho⟩; have c1 : w3.cell? ⟨w2.heap.size, 1, none⟩ = some (.complex .f32 y z) := (World.cell?_of_block (a := ⟨w2.heap.size, 1, none⟩) (ho.block w2.heap.size (by simp) (by omega))).trans (by simp); have HC3 := Lib.hid hc; have HO := Lib.hid ho; clear hc ho)
  all_goals
    have hO3 := below_of_only (B := w.heap.size) HO.out (by have := hb2.size; simp; omega) (fun k hk => by omega)
    have hb3 : Below w.heap.size w w3 := Below.trans (by repeat (first | exact hb2 | refine below_drewN ?_ _ | refine Below.drew ?_ | refine Below.alloc ?_ hb2.size _)) hO3
    go_wp2_with fail
    go_ret2
    exact ⟨_, _, _, rfl, wf_wrap _, by repeat (first | exact hb3 | refine below_drewN ?_ _ | refine Below.drew ?_)⟩
end Go.Proofs.Ytbjllfnjecggfaa
