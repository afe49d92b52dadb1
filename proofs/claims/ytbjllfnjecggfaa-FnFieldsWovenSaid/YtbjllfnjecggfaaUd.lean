/- Walks: the drawing of arguments: a number; a new cursor. -/
import Derived.Test.YtbjllfnjecggfaaUc
namespace Go.Proofs.Ytbjllfnjecggfaa
open Go.RowKit

theorem Cur.lt {B g : Nat} {a : Option Addr} {n cap : Nat} {w : World} (h : Cur B w g a n cap) : g < w.heap.size := by
  obtain ⟨⟨i, y, h0, h1, c0, _⟩, _⟩ := h
  exact World.block_lt_of_cell? _ _ c0
theorem cells_ints (w : World) (zs : List Int) (t : TypeId) (hz : ∀ z ∈ zs, -9223372036854775808 ≤ z ∧ z ≤ 9223372036854775807) :
    ∀ j, j < zs.length → ∃ x : Int, -9223372036854775808 ≤ x ∧ x ≤ 9223372036854775807 ∧ (w.alloc (.cells (zs.map (Value.int .i64)).toArray t)).cell? ⟨w.heap.size, j, none⟩ = some (.int .i64 x) := by
  intro j hj
  refine ⟨zs[j], (hz _ (List.getElem_mem hj)).1, (hz _ (List.getElem_mem hj)).2, ?_⟩
  simp [hj]
set_option maxRecDepth 100000 in
set_option maxHeartbeats 1000000 in
theorem number_any (B g : Nat) (a : Option Addr) (n cap : Nat) (w : World) (h : Cur B w g a n cap) :
    Calls Try.prog 91 #[.pointer (some ⟨g, 0, none⟩)] w (DrPost B w g a n cap (-9223372036854775808) 9223372036854775807) := by
  have HC := Lib.hid h
  clear h
  go_enter Try.func91, Try.ntmps91
  go_wp2_with fail
  refine (below_any B g a n cap _ _ HC.out (by omega) (by omega)).mono ?_
  rintro e w1 ⟨x, rfl, x0, x1, hc, ho⟩
  rw [if_neg (by omega)] at x1
  clear HC
  have HC := Lib.hid hc
  have HO := Lib.hid ho
  clear hc ho
  have hx : x = 0 ∨ x = 1 ∨ 2 ≤ x := by omega
  rcases hx with rfl | rfl | hx
  · go_wp2_with fail
    have hlt := HC.out.lt
    refine (pick_any B g a n cap w1.heap.size 10 _ (HC.out.alloc hlt _) (by omega) (by omega) (by omega) (cells_ints w1 [-1, 0, 127, 128, 16383, 16384, 1000000000, 1000000001, 9223372036854775807, -9223372036854775808] 3 (by decide))).mono ?_
    rintro e w2 ⟨y, rfl, y0, y1, hc, ho⟩
    go_wp2_with fail
    go_ret
    exact ⟨_, rfl, y0, y1, hc, (HO.out.alloc _).trans ho⟩
  · go_wp2_with fail
    refine (below_any B g a n cap _ _ HC.out (by omega) (by omega)).mono ?_
    rintro e w2 ⟨y, rfl, y0, y1, hc, ho⟩
    rw [if_neg (by omega)] at y1
    go_wp2_with fail
    go_ret
    exact ⟨_, rfl, by omega, by omega, hc, HO.out.trans ho⟩
  · have d0 : x ≠ 0 := by omega
    have d1 : x ≠ 1 := by omega
    go_wp2_with fail
    refine (below_any B g a n cap _ _ HC.out (by omega) (by omega)).mono ?_
    rintro e w2 ⟨y, rfl, y0, y1, hc, ho⟩
    rw [if_neg (by omega)] at y1
    go_wp2_with fail
    go_ret
    exact ⟨_, rfl, by omega, by omega, hc, HO.out.trans ho⟩
end Go.Proofs.Ytbjllfnjecggfaa
