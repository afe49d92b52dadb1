/- Walks: the drawing of arguments: a new cursor. -/
import Derived.Test.YtbjllfnjecggfaaUd
namespace Go.Proofs.Ytbjllfnjecggfaa
open Go.RowKit

def NewPost (B : Nat) (w : World) (a : Option Addr) (n cap : Nat) (e : Ending) (w' : World) : Prop :=
  ∃ g, e = .returned (.pointer (some ⟨g, 0, none⟩)) ∧ Cur B w' g a n cap ∧ w.heap.size ≤ g ∧ g < w'.heap.size ∧ Below w.heap.size w w'
theorem By.below {B : Nat} {w w' : World} {a : Option Addr} {n : Nat} (h : By B w a n) (hb : Below w.heap.size w w') : By B w' a n := by
  intro j hj
  obtain ⟨b, off, x, e, hb', h0, h1, hc⟩ := h j hj
  exact ⟨b, off, x, e, hb', h0, h1, (hb.cell (p := ⟨b, off + j, none⟩) (World.block_lt_of_cell? _ _ hc)).trans hc⟩
set_option maxRecDepth 100000 in
set_option maxHeartbeats 1000000 in
theorem new_any (B : Nat) (a : Option Addr) (n cap : Nat) (w : World) (hB : By B w a n) (hn : n ≤ 1048576) (hBw : B ≤ w.heap.size) :
    Calls Try.prog 89 #[.slice a n cap] w (NewPost B w a n cap) := by
  have HB := Lib.hid hB
  clear hB
  go_enter Try.func89, Try.ntmps89
  go_wp2
  go_loopw [3, 4] (fun h i wr => ∃ (z : Int) (j : Nat), j ≤ n ∧ j ≤ 4000 ∧ i = .int .i64 j ∧ h = .int .i64 z ∧ Below w.heap.size w wr) (fun _ i _ => 4000 - (intOf i).toNat)
  case atStart => exact ⟨_, 0, by omega, by omega, rfl, rfl, Below.refl _ _⟩
  case round =>
    obtain ⟨z, j, hj, hj4, rfl, rfl, hbw⟩ := hrel
    have HBw := Lib.hid (HB.out.below hbw)
    have hbs := hbw.size
    by_cases hlt : j < n ∧ j < 4000
    · obtain ⟨hlt, hlt4⟩ := hlt
      obtain ⟨b, off, x, rfl, hb', x0, x1, hx⟩ := HBw.out j hlt
      go_wp2
      go_roundw
      case rel => exact ⟨_, j + 1, by omega, by omega, by go_num, rfl, hbw⟩
      case measure => simp [intOf]; omega
    · by_cases hjn : j < n
      · have h4 : j = 4000 := by omega
        subst h4
        clear hlt
        go_wp2
        go_ret
        exact ⟨_, rfl, ⟨⟨0, z, by omega, by omega, by simp, by simp, by simp, fun k => by simp⟩, HBw.out.below ((Below.refl _ _).alloc (Nat.le_refl _) _), Nat.le_trans hBw hbs, hn⟩, hbs, by simp, hbw.alloc hbs _⟩
      · have hke : j = n := by omega
        subst hke
        clear hlt
        go_wp2
        go_ret
        exact ⟨_, rfl, ⟨⟨0, z, by omega, by omega, by simp, by simp, by simp, fun k => by simp⟩, HBw.out.below ((Below.refl _ _).alloc (Nat.le_refl _) _), Nat.le_trans hBw hbs, hn⟩, hbs, by simp, hbw.alloc hbs _⟩
end Go.Proofs.Ytbjllfnjecggfaa
