/- Walks: Carried; the law FnCarrierTurns returns true. -/
import Derived.Test.YtbjllfnjecggfaaTu
import Derived.Test.YtbjllfnjecggfaaEr
namespace Go.Proofs.Ytbjllfnjecggfaa
open Go.RowKit

/-- what a colour is carried as -/
def crd (a b : Nat) (m : Int) : Nat := if m = 1 then Op.negFloat .f32 b else if m = 2 then Op.negFloat .f32 a else if m = 3 then b else a
set_option maxHeartbeats 400000 in
theorem carried_any (a b : Nat) (n m : Int) (w : World) (h : n % 4 = m) : Calls Try.prog 37 #[.complex .f32 a b, .int .i64 n] w fun e w' => e = .returned (.float .f32 (crd a b m)) ∧ w = w' := by
  have hm : m = 0 ∨ m = 1 ∨ m = 2 ∨ m = 3 := by omega
  have H := Lib.hid h
  clear h
  rcases hm with rfl | rfl | rfl | rfl
  all_goals
    go_enter Try.func37, Try.ntmps37
    go_wp2_with (go_at_call 92; refine (mod4_any n _ _ H.out).mono ?_; rintro e w' ⟨rfl, rfl⟩)
    go_ret
    exact ⟨rfl, rfl⟩
theorem carried_to (a b : Nat) (n : Int) (p : Nat) (w : World) (h : Hid (crd a b (n % 4) = p)) : Calls Try.prog 37 #[.complex .f32 a b, .int .i64 n] w fun e w' => e = .returned (.float .f32 p) ∧ w = w' := by
  have := carried_any a b n _ w rfl
  rwa [h.out] at this
theorem carrier_to (n : Int) (re im : Nat) (w : World) (h : Hid (carr (n % 4) = .complex .f32 re im)) : Calls Try.prog 38 #[.int .i64 n] w fun e w' => e = .returned (.complex .f32 re im) ∧ w = w' := by
  have := carrier_any n _ w rfl
  rwa [h.out] at this
theorem self_eq {x : Nat} (h : (FloatKind.f32.format.order x x == some .eq) = true) : (FloatKind.f32.format.order (Op.negFloat .f32 x) (Op.negFloat .f32 x) == some .eq) = true ∧ (FloatKind.f32.format.order x (Op.negFloat .f32 (Op.negFloat .f32 x)) == some .eq) = true := by
  have hn : Fl.fv .f32 x ≠ none := by
    intro e; rw [Fl.order_self_nan (k := .f32), e] at h; cases h
  have h2 : (FloatKind.f32.format.order (Op.negFloat .f32 x) (Op.negFloat .f32 x) == some .eq) = true := by
    rw [Fl.order_self_nan (k := .f32), Fl.fv_neg]
    cases hx : Fl.fv .f32 x with
    | none => exact absurd hx hn
    | some c => rfl
  refine ⟨h2, ?_⟩
  have e : FloatKind.f32.format.read (Op.negFloat .f32 (Op.negFloat .f32 x)) = FloatKind.f32.format.read x := by
    rw [Fl.read_neg, Fl.read_neg]; cases FloatKind.f32.format.read x <;> simp [Ieee.Datum.opposite]
  unfold Ieee.Format.order at h ⊢
  rw [e]; exact h
theorem turns (y z : Nat) (k : Int) (hy : (FloatKind.f32.format.order y y == some .eq) = true) (hz : (FloatKind.f32.format.order z z == some .eq) = true) :
    (FloatKind.f32.format.order (crd y z ((k + 4) % 4)) (crd y z (k % 4)) == some .eq) = true ∧ (FloatKind.f32.format.order (crd y z ((k + 2) % 4)) (Op.negFloat .f32 (crd y z (k % 4))) == some .eq) = true ∧ (FloatKind.f32.format.order (crd y z ((k + 1) % 4)) (crd (Op.negFloat .f32 z) y (k % 4)) == some .eq) = true := by
  obtain ⟨ny, my⟩ := self_eq hy
  obtain ⟨nz, mz⟩ := self_eq hz
  have hm : k % 4 = 0 ∨ k % 4 = 1 ∨ k % 4 = 2 ∨ k % 4 = 3 := by omega
  rcases hm with h | h | h | h
  · have a4 : (k + 4) % 4 = 0 := by omega
    have a2 : (k + 2) % 4 = 2 := by omega
    have a1 : (k + 1) % 4 = 1 := by omega
    rw [a4, a2, a1, h]
    exact ⟨hy, ny, nz⟩
  · have a4 : (k + 4) % 4 = 1 := by omega
    have a2 : (k + 2) % 4 = 3 := by omega
    have a1 : (k + 1) % 4 = 2 := by omega
    rw [a4, a2, a1, h]
    exact ⟨nz, mz, ny⟩
  · have a4 : (k + 4) % 4 = 2 := by omega
    have a2 : (k + 2) % 4 = 0 := by omega
    have a1 : (k + 1) % 4 = 3 := by omega
    rw [a4, a2, a1, h]
    exact ⟨ny, my, mz⟩
  · have a4 : (k + 4) % 4 = 3 := by omega
    have a2 : (k + 2) % 4 = 1 := by omega
    have a1 : (k + 1) % 4 = 0 := by omega
    rw [a4, a2, a1, h]
    exact ⟨hz, nz, hy⟩
theorem phases (k : Int) : ∃ re im, carr (k % 4) = .complex .f32 re im ∧ carr ((k + 4) % 4) = .complex .f32 re im ∧ (FloatKind.f32.format.order re re == some .eq) = true ∧ (FloatKind.f32.format.order im im == some .eq) = true ∧
    ((FloatKind.f32.format.order re 0 == some .eq) = false ∨ ((FloatKind.f32.format.order re 0 == some .eq) = true ∧ (FloatKind.f32.format.order im 0 == some .eq) = false)) := by
  have a4 : (k + 4) % 4 = k % 4 := by omega
  rw [a4]
  have k0 : (FloatKind.f32.format.order 0 0 == some .eq) = true := by decide +kernel
  have k1 : (FloatKind.f32.format.order 1065353216 1065353216 == some .eq) = true := by decide +kernel
  have k2 : (FloatKind.f32.format.order 3212836864 3212836864 == some .eq) = true := by decide +kernel
  have k3 : (FloatKind.f32.format.order 1065353216 0 == some .eq) = false := by decide +kernel
  have k4 : (FloatKind.f32.format.order 3212836864 0 == some .eq) = false := by decide +kernel
  unfold carr
  split
  · exact ⟨_, _, rfl, rfl, k0, k1, .inr ⟨k0, k3⟩⟩
  · split
    · exact ⟨_, _, rfl, rfl, k2, k0, .inl k4⟩
    · split
      · exact ⟨_, _, rfl, rfl, k0, k2, .inr ⟨k0, k4⟩⟩
      · exact ⟨_, _, rfl, rfl, k1, k0, .inl k3⟩
theorem big_no (a : Option Addr) (n cap : Nat) (w : World) (hn : n ≤ 1048576) : Calls Try.prog 35 #[.slice a n cap] w fun e w' => e = .returned (.bool false) ∧ w = w' := by
  go_enter Try.func35, Try.ntmps35
  go_wp2
  go_ret
  exact ⟨by show Ending.returned (.bool (decide (1048576 < (n : Int)))) = _; rw [decide_eq_false (by omega)], rfl⟩
theorem big_yes (a : Option Addr) (n cap : Nat) (w : World) (hn : 1048576 < n) : Calls Try.prog 35 #[.slice a n cap] w fun e w' => e = .returned (.bool true) ∧ w = w' := by
  go_enter Try.func35, Try.ntmps35
  go_wp2
  go_ret
  exact ⟨by show Ending.returned (.bool (decide (1048576 < (n : Int)))) = _; rw [decide_eq_true (by omega)], rfl⟩
set_option maxRecDepth 100000 in
set_option maxHeartbeats 1000000 in
theorem lawTurns_small (a : Option Addr) (n cap : Nat) (w : World) (hB : By w.heap.size w a n) (hn : n ≤ 1048576) :
    Calls Try.prog 6 #[.slice a n cap] w fun e w' => e = .returned (.bool true) ∧ Below w.heap.size w w' := by
  have hk := drawCarried a n cap w hB hn
  clear hB
  go_enter Try.func6, Try.ntmps6
  go_wp2_with fail
  refine (big_no a n cap w hn).mono ?_
  rintro e w0 ⟨rfl, rfl⟩
  go_wp2_with fail
  refine hk.mono ?_
  rintro e w1 ⟨y, z, k, rfl, hw, hb⟩
  by_cases e0 : (FloatKind.f32.format.order y y == some .eq) = true
  · by_cases e1 : (FloatKind.f32.format.order z z == some .eq) = true
    · by_cases b1 : 1152921504606846976 < k
      · go_wp2
        go_ret
        exact ⟨rfl, hb⟩
      · by_cases b2 : k < -1152921504606846976
        · go_wp2
          go_ret
          exact ⟨rfl, hb⟩
        · have b1' : k ≤ 1152921504606846976 := by omega
          have b2' : -1152921504606846976 ≤ k := by omega
          clear b1 b2
          obtain ⟨t4, t2, t1⟩ := turns y z k e0 e1
          obtain ⟨re, im, p0, p4, r1, r2, r3⟩ := phases k
          have P0 := Lib.hid p0
          have P4 := Lib.hid p4
          clear p0 p4
          obtain ⟨x0, q0⟩ : ∃ p, crd y z (k % 4) = p := ⟨_, rfl⟩
          obtain ⟨x4, q4⟩ : ∃ p, crd y z ((k + 4) % 4) = p := ⟨_, rfl⟩
          obtain ⟨x2, q2⟩ : ∃ p, crd y z ((k + 2) % 4) = p := ⟨_, rfl⟩
          obtain ⟨x1, q1⟩ : ∃ p, crd y z ((k + 1) % 4) = p := ⟨_, rfl⟩
          obtain ⟨u0, v0⟩ : ∃ p, crd (Op.negFloat .f32 z) y (k % 4) = p := ⟨_, rfl⟩
          rw [q4, q0] at t4
          rw [q2, q0] at t2
          rw [q1, v0] at t1
          have Q0 := Lib.hid q0
          have Q4 := Lib.hid q4
          have Q2 := Lib.hid q2
          have Q1 := Lib.hid q1
          have V0 := Lib.hid v0
          clear q0 q4 q2 q1 v0
          go_wp2_with fail
          refine (carried_to y z k x0 _ Q0).mono ?_
          rintro e w2 ⟨rfl, rfl⟩
          go_wp2_with fail
          refine (carried_to y z (k + 4) x4 _ Q4).mono ?_
          rintro e w2 ⟨rfl, rfl⟩
          go_wp2_with fail
          refine (carried_to y z (k + 2) x2 _ Q2).mono ?_
          rintro e w2 ⟨rfl, rfl⟩
          go_wp2_with fail
          refine (carried_to y z (k + 1) x1 _ Q1).mono ?_
          rintro e w2 ⟨rfl, rfl⟩
          go_wp2_with fail
          refine (carried_to (Op.negFloat .f32 z) y k u0 _ V0).mono ?_
          rintro e w2 ⟨rfl, rfl⟩
          go_wp2_with fail
          refine (carrier_to (k + 4) re im _ P4).mono ?_
          rintro e w2 ⟨rfl, rfl⟩
          go_wp2_with fail
          refine (carrier_to k re im _ P0).mono ?_
          rintro e w2 ⟨rfl, rfl⟩
          rcases r3 with r3 | ⟨r3, r4⟩
          all_goals
            go_wp2_with fail
            refine (carrier_to k re im _ P0).mono ?_
            rintro e w2 ⟨rfl, rfl⟩
            go_wp2
            go_ret
            exact ⟨rfl, hb⟩
    · have e1' : (FloatKind.f32.format.order z z == some .eq) = false := by simpa using e1
      clear e1
      go_wp2
      go_ret
      exact ⟨rfl, hb⟩
  · have e0' : (FloatKind.f32.format.order y y == some .eq) = false := by simpa using e0
    clear e0
    go_wp2
    go_ret
    exact ⟨rfl, hb⟩
set_option maxRecDepth 100000 in
set_option maxHeartbeats 1000000 in
theorem lawTurns_big (a : Option Addr) (n cap : Nat) (w : World) (hn : 1048576 < n) :
    Calls Try.prog 6 #[.slice a n cap] w fun e w' => e = .returned (.bool true) ∧ Below w.heap.size w w' := by
  go_enter Try.func6, Try.ntmps6
  go_wp2_with fail
  refine (big_yes a n cap w hn).mono ?_
  rintro e w1 ⟨rfl, rfl⟩
  go_wp2_with fail
  go_ret
  exact ⟨rfl, Below.refl _ _⟩
theorem lawTurns (w : World) (a : Option Addr) (n cap : Nat) (_z : Nat) (hB : By w.heap.size w a n) :
    Calls Try.prog 6 #[.slice a n cap] w fun e w' => e = .returned (.bool true) ∧ Below w.heap.size w w' := by
  by_cases h : 1048576 < n
  · exact lawTurns_big a n cap w h
  · exact lawTurns_small a n cap w hB (by omega)
end Go.Proofs.Ytbjllfnjecggfaa
