/- Walk: the law FnExactSwing returns true. -/
import Derived.Test.YtbjllfnjecggfaaSa
import Derived.Test.YtbjllfnjecggfaaWh
namespace Go.Proofs.Ytbjllfnjecggfaa
open Go.RowKit

theorem eqF_below (u v : Value) (xs ys : List Nat) (w : World) (hU : Rf w u xs) (hV : Rf w v ys) (hs : Sm xs ys) (hlen : xs.length ≤ 1048576) :
    Calls Try.prog 28 #[u, v] w fun e w' => e = .returned (.bool true) ∧ Below w.heap.size w w' :=
  (eqF_any u v xs ys w hU hV hs hlen).mono fun e w' ⟨he, n, hw⟩ => ⟨he, by rw [hw]; exact below_drewN (Below.refl _ _) n⟩
theorem heldF_below (v : Value) (k : Int) (n : Nat) (w : World) (hR : Rf w v (mk k n)) (hlen : n ≤ 1048576) (hk0 : 0 ≤ k) (hk : k ≤ 100000000) :
    Calls Try.prog 30 #[v, .int .i64 k] w fun e w' => e = .returned (.int .i64 (k + n)) ∧ Below w.heap.size w w' :=
  (heldF_any v k n w hR hlen hk0 hk).mono fun e w' ⟨he, hw⟩ => ⟨he, by rw [← hw]; exact Below.refl _ _⟩

theorem swI_b (u v : Value) (xs ys : List Nat) (b : Bool) (w : World) (hU : Rf w u xs) (hV : Rf w v ys) (hx : xs.length ≤ 1048576) (hy : ys.length ≤ 1048576) (hb : (bcOk xs && bcOk ys) = b) :
    Calls Try.prog 81 #[u, v] w (SwPost w (swF b (bcF xs) (bcF ys))) := by
  have h := swI_any u v xs ys _ _ w hU hV hx hy rfl rfl
  rw [hb] at h
  exact h
theorem swS_b (u v : Value) (xs ys : List Nat) (b : Bool) (w : World) (hU : Rf w u xs) (hV : Rf w v ys) (hx : xs.length ≤ 1048576) (hy : ys.length ≤ 1048576) (hb : (bcOk xs && bcOk ys) = b) :
    Calls Try.prog 80 #[u, v] w (SwPost w (swF b (bcF xs) (bcF ys))) := by
  have h := swS_any u v xs ys _ _ w hU hV hx hy rfl rfl
  rw [hb] at h
  exact h

set_option maxRecDepth 100000 in
set_option maxHeartbeats 2000000 in
theorem lawSw_true (a0 a1 : Option Addr) (c0 c1 : Nat) (xs ys : List Nat) (w : World) (hU : Rf w (.slice a0 xs.length c0) xs) (hV : Rf w (.slice a1 ys.length c1) ys) (hx : xs.length ≤ 1048576) (hy : ys.length ≤ 1048576) (hq : (bcOk xs && bcOk ys) = true) :
    Calls Try.prog 23 #[.slice a0 xs.length c0, .slice a1 ys.length c1] w fun e w' => e = .returned (.bool true) ∧ Below w.heap.size w w' := by
  have B : Below w.heap.size w w := Below.refl _ _
  have s0 := B.size
  have HU : Rb w.heap.size w (.slice a0 xs.length c0) xs := Rb.of hU
  have HV : Rb w.heap.size w (.slice a1 ys.length c1) ys := Rb.of hV
  clear hU hV
  have HQ := Lib.hid hq
  clear hq
  go_enter Try.func23, Try.ntmps23
  go_wp2_with fail
  refine (toF_any _ _ _ HU.1 hx).mono ?_
  rintro e w1 ⟨v_p, rfl, h_p, b1⟩
  have at_p := At.of h_p
  replace HU := HU.below b1
  replace HV := HV.below b1
  have s1 := b1.size
  replace B := B.trans (b1.mono B.size)
  clear b1
  go_wp2_with fail
  refine (toF_any _ _ _ HV.1 hy).mono ?_
  rintro e w2 ⟨v_q, rfl, h_q, b2⟩
  have at_q := At.of h_q
  replace HU := HU.below b2
  replace HV := HV.below b2
  replace h_p := h_p.below b2
  have s2 := b2.size
  replace B := B.trans (b2.mono B.size)
  clear b2
  go_wp2_with fail
  refine (swS_b _ _ xs ys true _ h_p.rf h_q.rf hx hy HQ.out).mono ?_
  rintro e w3 ⟨rfl, b3⟩
  replace HU := HU.below b3
  replace HV := HV.below b3
  replace h_p := h_p.below b3
  replace h_q := h_q.below b3
  have s3 := b3.size
  replace B := B.trans (b3.mono B.size)
  clear b3
  go_wp2_with fail
  clear h_p at_p
  clear h_q at_q
  refine (toF_any _ _ _ HU.1 hx).mono ?_
  rintro e w4 ⟨v_x, rfl, h_x, b4⟩
  have at_x := At.of h_x
  replace HU := HU.below b4
  replace HV := HV.below b4
  have s4 := b4.size
  replace B := B.trans (b4.mono B.size)
  clear b4
  go_wp2_with fail
  refine (toF_any _ _ _ HV.1 hy).mono ?_
  rintro e w5 ⟨v_y, rfl, h_y, b5⟩
  have at_y := At.of h_y
  replace HU := HU.below b5
  replace HV := HV.below b5
  replace h_x := h_x.below b5
  have s5 := b5.size
  replace B := B.trans (b5.mono B.size)
  clear b5
  go_wp2_with fail
  refine (swI_b _ _ xs ys true _ h_x.rf h_y.rf hx hy HQ.out).mono ?_
  rintro e w6 ⟨rfl, b6⟩
  replace HU := HU.below b6
  replace HV := HV.below b6
  replace h_x := h_x.below b6
  replace h_y := h_y.below b6
  have s6 := b6.size
  replace B := B.trans (b6.mono B.size)
  clear b6
  go_wp2_with fail
  refine (toF_any _ _ _ HU.1 hx).mono ?_
  rintro e w7 ⟨v_p, rfl, h_p, b7⟩
  have at_p := At.of h_p
  replace HU := HU.below b7
  replace HV := HV.below b7
  replace h_x := h_x.below b7
  replace h_y := h_y.below b7
  have s7 := b7.size
  replace B := B.trans (b7.mono B.size)
  clear b7
  go_wp2_with fail
  refine (eqF_below _ _ _ _ _ h_x.rf h_p.rf (Sm.refl _) hx).mono ?_
  rintro e w8 ⟨rfl, b8⟩
  replace HU := HU.below b8
  replace HV := HV.below b8
  replace h_x := h_x.below b8
  replace h_y := h_y.below b8
  replace h_p := h_p.below b8
  have s8 := b8.size
  replace B := B.trans (b8.mono B.size)
  clear b8
  go_wp2_with fail
  clear h_p at_p
  refine (toF_any _ _ _ HV.1 hy).mono ?_
  rintro e w9 ⟨v_p, rfl, h_p, b9⟩
  have at_p := At.of h_p
  replace HU := HU.below b9
  replace HV := HV.below b9
  replace h_x := h_x.below b9
  replace h_y := h_y.below b9
  have s9 := b9.size
  replace B := B.trans (b9.mono B.size)
  clear b9
  go_wp2_with fail
  refine (eqF_below _ _ _ _ _ h_y.rf h_p.rf (Sm.refl _) hy).mono ?_
  rintro e w10 ⟨rfl, b10⟩
  replace HU := HU.below b10
  replace HV := HV.below b10
  replace h_x := h_x.below b10
  replace h_y := h_y.below b10
  replace h_p := h_p.below b10
  have s10 := b10.size
  replace B := B.trans (b10.mono B.size)
  clear b10
  go_wp2_with fail
  clear h_p at_p
  go_ret
  exact ⟨rfl, B⟩

set_option maxRecDepth 100000 in
set_option maxHeartbeats 2000000 in
theorem lawSw_false (a0 a1 : Option Addr) (c0 c1 : Nat) (xs ys : List Nat) (w : World) (hU : Rf w (.slice a0 xs.length c0) xs) (hV : Rf w (.slice a1 ys.length c1) ys) (hx : xs.length ≤ 1048576) (hy : ys.length ≤ 1048576) (hq : (bcOk xs && bcOk ys) = false) :
    Calls Try.prog 23 #[.slice a0 xs.length c0, .slice a1 ys.length c1] w fun e w' => e = .returned (.bool true) ∧ Below w.heap.size w w' := by
  have B : Below w.heap.size w w := Below.refl _ _
  have s0 := B.size
  have HU : Rb w.heap.size w (.slice a0 xs.length c0) xs := Rb.of hU
  have HV : Rb w.heap.size w (.slice a1 ys.length c1) ys := Rb.of hV
  clear hU hV
  have HQ := Lib.hid hq
  clear hq
  go_enter Try.func23, Try.ntmps23
  go_wp2_with fail
  refine (toF_any _ _ _ HU.1 hx).mono ?_
  rintro e w1 ⟨v_p, rfl, h_p, b1⟩
  have at_p := At.of h_p
  replace HU := HU.below b1
  replace HV := HV.below b1
  have s1 := b1.size
  replace B := B.trans (b1.mono B.size)
  clear b1
  go_wp2_with fail
  refine (toF_any _ _ _ HV.1 hy).mono ?_
  rintro e w2 ⟨v_q, rfl, h_q, b2⟩
  have at_q := At.of h_q
  replace HU := HU.below b2
  replace HV := HV.below b2
  replace h_p := h_p.below b2
  have s2 := b2.size
  replace B := B.trans (b2.mono B.size)
  clear b2
  go_wp2_with fail
  refine (swS_b _ _ xs ys false _ h_p.rf h_q.rf hx hy HQ.out).mono ?_
  rintro e w3 ⟨rfl, b3⟩
  replace HU := HU.below b3
  replace HV := HV.below b3
  replace h_p := h_p.below b3
  replace h_q := h_q.below b3
  have s3 := b3.size
  replace B := B.trans (b3.mono B.size)
  clear b3
  go_wp2_with fail
  clear h_p at_p
  clear h_q at_q
  refine (toF_any _ _ _ HU.1 hx).mono ?_
  rintro e w4 ⟨v_x, rfl, h_x, b4⟩
  have at_x := At.of h_x
  replace HU := HU.below b4
  replace HV := HV.below b4
  have s4 := b4.size
  replace B := B.trans (b4.mono B.size)
  clear b4
  go_wp2_with fail
  refine (toF_any _ _ _ HV.1 hy).mono ?_
  rintro e w5 ⟨v_y, rfl, h_y, b5⟩
  have at_y := At.of h_y
  replace HU := HU.below b5
  replace HV := HV.below b5
  replace h_x := h_x.below b5
  have s5 := b5.size
  replace B := B.trans (b5.mono B.size)
  clear b5
  go_wp2_with fail
  refine (swI_b _ _ xs ys false _ h_x.rf h_y.rf hx hy HQ.out).mono ?_
  rintro e w6 ⟨rfl, b6⟩
  replace HU := HU.below b6
  replace HV := HV.below b6
  replace h_x := h_x.below b6
  replace h_y := h_y.below b6
  have s6 := b6.size
  replace B := B.trans (b6.mono B.size)
  clear b6
  go_wp2_with fail
  refine (toF_any _ _ _ HU.1 hx).mono ?_
  rintro e w7 ⟨v_p, rfl, h_p, b7⟩
  have at_p := At.of h_p
  replace HU := HU.below b7
  replace HV := HV.below b7
  replace h_x := h_x.below b7
  replace h_y := h_y.below b7
  have s7 := b7.size
  replace B := B.trans (b7.mono B.size)
  clear b7
  go_wp2_with fail
  refine (eqF_below _ _ _ _ _ h_x.rf h_p.rf (Sm.refl _) hx).mono ?_
  rintro e w8 ⟨rfl, b8⟩
  replace HU := HU.below b8
  replace HV := HV.below b8
  replace h_x := h_x.below b8
  replace h_y := h_y.below b8
  replace h_p := h_p.below b8
  have s8 := b8.size
  replace B := B.trans (b8.mono B.size)
  clear b8
  go_wp2_with fail
  clear h_p at_p
  refine (toF_any _ _ _ HV.1 hy).mono ?_
  rintro e w9 ⟨v_p, rfl, h_p, b9⟩
  have at_p := At.of h_p
  replace HU := HU.below b9
  replace HV := HV.below b9
  replace h_x := h_x.below b9
  replace h_y := h_y.below b9
  have s9 := b9.size
  replace B := B.trans (b9.mono B.size)
  clear b9
  go_wp2_with fail
  refine (eqF_below _ _ _ _ _ h_y.rf h_p.rf (Sm.refl _) hy).mono ?_
  rintro e w10 ⟨rfl, b10⟩
  replace HU := HU.below b10
  replace HV := HV.below b10
  replace h_x := h_x.below b10
  replace h_y := h_y.below b10
  replace h_p := h_p.below b10
  have s10 := b10.size
  replace B := B.trans (b10.mono B.size)
  clear b10
  go_wp2_with fail
  clear h_p at_p
  go_ret
  exact ⟨rfl, B⟩

set_option maxRecDepth 100000 in
set_option maxHeartbeats 400000 in
theorem lawSw_big (w : World) (a0 a1 : Option Addr) (n0 n1 c0 c1 : Nat) (h : 1048576 < n0 ∨ 1048576 < n1) :
    Calls Try.prog 23 #[.slice a0 n0 c0, .slice a1 n1 c1] w fun e w' => e = .returned (.bool true) ∧ Below w.heap.size w w' := by
  by_cases h0 : 1048576 < n0
  · clear h
    go_enter Try.func23, Try.ntmps23
    go_wp2_with fail
    go_ret
    exact ⟨rfl, Below.refl _ _⟩
  · have h1 : 1048576 < n1 := by omega
    clear h
    go_enter Try.func23, Try.ntmps23
    go_wp2_with fail
    go_ret
    exact ⟨rfl, Below.refl _ _⟩

theorem lawSw (w : World) (a0 : Option Addr) (n0 c0 : Nat) (xs : List Nat) (hU : Rf w (.slice a0 n0 c0) xs) (a1 : Option Addr) (n1 c1 : Nat) (ys : List Nat) (hV : Rf w (.slice a1 n1 c1) ys) :
    Calls Try.prog 23 #[.slice a0 n0 c0, .slice a1 n1 c1] w fun e w' => e = .returned (.bool true) ∧ Below w.heap.size w w' := by
  have e0 := hU.len
  have e1 := hV.len
  subst e0 e1
  by_cases hb : 1048576 < xs.length ∨ 1048576 < ys.length
  · exact lawSw_big w a0 a1 _ _ c0 c1 hb
  · by_cases hk : (bcOk xs && bcOk ys) = true
    · exact lawSw_true a0 a1 c0 c1 xs ys w hU hV (by omega) (by omega) hk
    · exact lawSw_false a0 a1 c0 c1 xs ys w hU hV (by omega) (by omega) (Bool.eq_false_iff.2 hk)

end Go.Proofs.Ytbjllfnjecggfaa
