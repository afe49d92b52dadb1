/- Walk: equals. -/
import Derived.Test.YtbjllfnjecggfaaGq
import Derived.Test.YtbjllfnjecggfaaGp
namespace Go.Proofs.Ytbjllfnjecggfaa
open Go.RowKit

set_option maxRecDepth 100000 in
set_option maxHeartbeats 1000000 in
theorem equals_any (u v : Value) (xs ys : List Nat) (w : World) (hU : Rf w u xs) (hV : Rf w v ys) (hl : xs.length = ys.length) (hs : ∀ j, j < xs.length → (FloatKind.f32.format.order (xs.getD j 0) (ys.getD j 0) == some .eq) = true) (hlen : xs.length ≤ 1048576) (h0 : xs.length ≠ 0) :
    Calls Try.prog 52 #[u, v] w fun e w' => e = .returned (.bool true) ∧ Below w.heap.size w w' := by
  rcases hU.split with ⟨o, c, rfl, e⟩ | ⟨b, off, cap, rfl, h1, h2, hc⟩
  · subst e; simp at h0
  rcases hV.split with ⟨o', c', rfl, e⟩ | ⟨b', off', cap', rfl, h1', h2', hc'⟩
  · subst e; rw [List.length_nil] at hl; omega
  rw [← hl] at h1' hc' ⊢
  have HC := Lib.hid hc
  have HC' := Lib.hid hc'
  have HS := Lib.hid hs
  clear hc hc' hl h0 hU hV hs
  go_enter Try.func52, Try.ntmps52
  go_wp2
  go_loopw [5] (fun i wr => ∃ j : Nat, j ≤ xs.length ∧ i = .int .i64 j ∧ Below w.heap.size w wr) (fun i _ => xs.length - (intOf i).toNat)
  case atStart => exact ⟨0, Nat.zero_le _, rfl, Below.refl _ _⟩
  case round =>
    obtain ⟨j, hj, rfl, hbw⟩ := hrel
    by_cases hlt : j < xs.length
    · have g1 := HC.out j hlt
      have g2 := HC'.out j hlt
      rw [← hbw.cell (p := ⟨b, off + j, none⟩) (World.block_lt_of_cell? _ _ g1)] at g1
      rw [← hbw.cell (p := ⟨b', off' + j, none⟩) (World.block_lt_of_cell? _ _ g2)] at g2
      have hsm := HS.out j hlt
      generalize xs.getD j 0 = x at *
      generalize ys.getD j 0 = y at *
      have hsn : (FloatKind.f32.format.order x y != some .eq) = false := by rw [bne, hsm]; rfl
      clear hsm
      go_wp2
      go_region
      go_wp2
      go_roundw
      case rel => exact ⟨j + 1, by omega, by go_num, by repeat (first | exact hbw | refine Below.drew ?_ | refine below_drewN ?_ _)⟩
      case measure => simp [intOf]; omega
    · have hke : j = xs.length := by omega
      subst hke
      go_wp2
      go_ret
      exact ⟨rfl, hbw⟩
end Go.Proofs.Ytbjllfnjecggfaa
