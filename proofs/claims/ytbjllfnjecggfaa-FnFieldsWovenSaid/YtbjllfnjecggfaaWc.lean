/- Walks: eqFloat32S: two slices that hold the same singles (NaN's bits aside). -/
import Derived.Test.YtbjllfnjecggfaaWb
import Derived.Test.YtbjllfnjecggfaaSf
namespace Go.Proofs.Ytbjllfnjecggfaa
open Go.RowKit

/-- two lists of singles are the same, NaN's bits aside -/
def Sm (xs ys : List Nat) : Prop := xs.map (Fl.fv .f32) = ys.map (Fl.fv .f32)
theorem Sm.refl (xs : List Nat) : Sm xs xs := rfl
theorem Sm.len {xs ys : List Nat} (h : Sm xs ys) : xs.length = ys.length := by have := congrArg List.length h; simpa using this
theorem Sm.at {xs ys : List Nat} (h : Sm xs ys) (j : Nat) (hj : j < xs.length) : Fl.fv .f32 (xs.getD j 0) = Fl.fv .f32 (ys.getD j 0) := by
  have hl := h.len
  have h2 := congrArg (fun l => l[j]?) h
  simp [hj, hl ▸ hj] at h2
  simp [List.getD, hj, hl ▸ hj, h2]

set_option maxHeartbeats 400000 in
theorem eqF_any (u v : Value) (xs ys : List Nat) (w : World) (hU : Rf w u xs) (hV : Rf w v ys) (hs : Sm xs ys) (hlen : xs.length ≤ 1048576) :
    Calls Try.prog 28 #[u, v] w fun e w' => e = .returned (.bool true) ∧ ∃ n, w' = w.drewN n := by
  have hl := hs.len
  by_cases h0 : xs.length = 0
  · have hx : xs = [] := List.eq_nil_of_length_eq_zero h0
    have hy : ys = [] := List.eq_nil_of_length_eq_zero (by omega)
    subst hx hy
    clear hs hl h0
    rcases hU.split with ⟨o, c, rfl, _⟩ | ⟨b, off, cap, rfl, _, _, _⟩ <;> rcases hV.split with ⟨o', c', rfl, _⟩ | ⟨b', off', cap', rfl, _, _, _⟩
    all_goals
      go_enter Try.func28, Try.ntmps28
      go_wp2
      refine wp_loop_rounds 1 ?_
      rw [rounds_succ]
      go_wp2
      go_ret
      exact ⟨rfl, 0, rfl⟩
  · rcases hU.split with ⟨o, c, rfl, e⟩ | ⟨b, off, cap, rfl, h1, h2, hc⟩
    · subst e; simp at h0
    rcases hV.split with ⟨o', c', rfl, e⟩ | ⟨b', off', cap', rfl, h1', h2', hc'⟩
    · subst e; simp at hl; subst hl; simp at h0
    rw [← hl] at h1' hc' ⊢
    have HC := Lib.hid hc
    have HC' := Lib.hid hc'
    clear hc hc' hl h0
    go_enter Try.func28, Try.ntmps28
    go_wp2
    go_loopw [5] (fun i wr => ∃ j n : Nat, j ≤ xs.length ∧ i = .int .i64 j ∧ wr = w.drewN n) (fun i _ => xs.length - (intOf i).toNat)
    case atStart => exact ⟨0, 0, Nat.zero_le _, rfl, rfl⟩
    case round =>
      obtain ⟨j, n, hj, rfl, rfl⟩ := hrel
      by_cases hlt : j < xs.length
      · have hcell := HC.out j hlt
        have hcell' := HC'.out j hlt
        have hsm := Lib.hid (hs.at j hlt)
        generalize xs.getD j 0 = x at *
        generalize ys.getD j 0 = y at *
        go_wp2
        go_region_with (go_at_call 83; refine (sameF_any _ _ _ (by rw [Fl.fv_widen, Fl.fv_widen, hsm.out])).mono ?_; rintro e w' ⟨rfl, m, rfl⟩)
        all_goals
          go_wp2
          go_roundw
          case rel => exact ⟨j + 1, _, by omega, by go_num, rfl⟩
          case measure => simp [intOf]; omega
      · have hke : j = xs.length := by omega
        subst hke
        go_wp2
        go_ret
        exact ⟨rfl, n, rfl⟩

end Go.Proofs.Ytbjllfnjecggfaa
