/- Walk: the law FnExactAddSamples returns true. -/
import Derived.Test.YtbjllfnjecggfaaWd
namespace Go.Proofs.Ytbjllfnjecggfaa
open Go.RowKit

theorem eqF_below (u v : Value) (xs ys : List Nat) (w : World) (hU : Rf w u xs) (hV : Rf w v ys) (hs : Sm xs ys) (hlen : xs.length ≤ 1048576) :
    Calls Try.prog 28 #[u, v] w fun e w' => e = .returned (.bool true) ∧ Below w.heap.size w w' :=
  (eqF_any u v xs ys w hU hV hs hlen).mono fun e w' ⟨he, n, hw⟩ => ⟨he, by rw [hw]; exact below_drewN (Below.refl _ _) n⟩
theorem heldF_below (v : Value) (k : Int) (n : Nat) (w : World) (hR : Rf w v (mk k n)) (hlen : n ≤ 1048576) (hk0 : 0 ≤ k) (hk : k ≤ 100000000) :
    Calls Try.prog 30 #[v, .int .i64 k] w fun e w' => e = .returned (.int .i64 (k + n)) ∧ Below w.heap.size w w' :=
  (heldF_any v k n w hR hlen hk0 hk).mono fun e w' ⟨he, hw⟩ => ⟨he, by rw [← hw]; exact Below.refl _ _⟩

set_option maxRecDepth 100000 in
set_option maxHeartbeats 2000000 in
theorem lawAdd_ok (a0 a1 : Option Addr) (c0 c1 : Nat) (xs ys : List Nat) (w : World) (hU : Rf w (.slice a0 xs.length c0) xs) (hV : Rf w (.slice a1 ys.length c1) ys) (hx : xs.length ≤ 1048576) (hy : ys.length ≤ 1048576) (hl : xs.length = ys.length) (h256 : xs.length ≤ 256) :
    Calls Try.prog 3 #[.slice a0 xs.length c0, .slice a1 ys.length c1] w fun e w' => e = .returned (.bool true) ∧ Below w.heap.size w w' := by
  have B : Below w.heap.size w w := Below.refl _ _
  have s0 := B.size
  have HU : Rb w.heap.size w (.slice a0 xs.length c0) xs := Rb.of hU
  have HV : Rb w.heap.size w (.slice a1 ys.length c1) ys := Rb.of hV
  clear hU hV
  have HL := Lib.hid hl
  clear hl
  go_enter Try.func3, Try.ntmps3
  go_wp2_with fail
  refine (toF_any _ _ _ HU.1 hx).mono ?_
  rintro e w1 ⟨v_p, rfl, h_p, b1⟩
  have at_p := At.of h_p
  replace HU := HU.below b1
  replace HV := HV.below b1
  have s1 := b1.size
  replace B := B.trans (b1.mono B.size)
  clear b1
  go_wp2_with fail
  refine (toF_any _ _ _ HV.1 hy).mono ?_
  rintro e w2 ⟨v_q, rfl, h_q, b2⟩
  have at_q := At.of h_q
  replace HU := HU.below b2
  replace HV := HV.below b2
  replace h_p := h_p.below b2
  have s2 := b2.size
  replace B := B.trans (b2.mono B.size)
  clear b2
  go_wp2_with fail
  refine (specAdd_ok _ _ _ _ _ h_p.rf h_q.rf HL.out h256).mono ?_
  rintro e w3 ⟨v_w, z_w, rfl, h_w, f_w, b3⟩
  have F_w := Lib.hid f_w
  have l_w : z_w.length ≤ 1048576 := by have e := congrArg List.length f_w; rw [List.length_map, addv_length _ _ HL.out] at e; omega
  clear f_w
  have at_w := At.of h_w
  replace HU := HU.below b3
  replace HV := HV.below b3
  replace h_p := h_p.below b3
  replace h_q := h_q.below b3
  have s3 := b3.size
  replace B := B.trans (b3.mono B.size)
  clear b3
  go_wp2_with fail
  clear h_p at_p
  clear h_q at_q
  refine (toF_any _ _ _ HU.1 hx).mono ?_
  rintro e w4 ⟨v_x, rfl, h_x, b4⟩
  have at_x := At.of h_x
  replace HU := HU.below b4
  replace HV := HV.below b4
  replace h_w := h_w.below b4
  have s4 := b4.size
  replace B := B.trans (b4.mono B.size)
  clear b4
  go_wp2_with fail
  refine (toF_any _ _ _ HV.1 hy).mono ?_
  rintro e w5 ⟨v_y, rfl, h_y, b5⟩
  have at_y := At.of h_y
  replace HU := HU.below b5
  replace HV := HV.below b5
  replace h_w := h_w.below b5
  replace h_x := h_x.below b5
  have s5 := b5.size
  replace B := B.trans (b5.mono B.size)
  clear b5
  go_wp2_with fail
  refine (implAdd_ok _ _ _ _ _ h_x.rf h_y.rf HL.out h256).mono ?_
  rintro e w6 ⟨v_g, z_g, rfl, h_g, f_g, b6⟩
  have F_g := Lib.hid f_g
  have l_g : z_g.length ≤ 1048576 := by have e := congrArg List.length f_g; rw [List.length_map, addv_length _ _ HL.out] at e; omega
  clear f_g
  have at_g := At.of h_g
  replace HU := HU.below b6
  replace HV := HV.below b6
  replace h_w := h_w.below b6
  replace h_x := h_x.below b6
  replace h_y := h_y.below b6
  have s6 := b6.size
  replace B := B.trans (b6.mono B.size)
  clear b6
  go_wp2_with fail
  refine (eqF_below _ _ _ _ _ h_g.rf h_w.rf (F_g.out.trans F_w.out.symm) l_g).mono ?_
  rintro e w7 ⟨rfl, b7⟩
  replace HU := HU.below b7
  replace HV := HV.below b7
  replace h_w := h_w.below b7
  replace h_x := h_x.below b7
  replace h_y := h_y.below b7
  replace h_g := h_g.below b7
  have s7 := b7.size
  replace B := B.trans (b7.mono B.size)
  clear b7
  go_wp2_with fail
  refine (toF_any _ _ _ HU.1 hx).mono ?_
  rintro e w8 ⟨v_p, rfl, h_p, b8⟩
  have at_p := At.of h_p
  replace HU := HU.below b8
  replace HV := HV.below b8
  replace h_w := h_w.below b8
  replace h_x := h_x.below b8
  replace h_y := h_y.below b8
  replace h_g := h_g.below b8
  have s8 := b8.size
  replace B := B.trans (b8.mono B.size)
  clear b8
  go_wp2_with fail
  refine (eqF_below _ _ _ _ _ h_x.rf h_p.rf (Sm.refl _) hx).mono ?_
  rintro e w9 ⟨rfl, b9⟩
  replace HU := HU.below b9
  replace HV := HV.below b9
  replace h_w := h_w.below b9
  replace h_x := h_x.below b9
  replace h_y := h_y.below b9
  replace h_g := h_g.below b9
  replace h_p := h_p.below b9
  have s9 := b9.size
  replace B := B.trans (b9.mono B.size)
  clear b9
  go_wp2_with fail
  clear h_p at_p
  refine (toF_any _ _ _ HV.1 hy).mono ?_
  rintro e w10 ⟨v_p, rfl, h_p, b10⟩
  have at_p := At.of h_p
  replace HU := HU.below b10
  replace HV := HV.below b10
  replace h_w := h_w.below b10
  replace h_x := h_x.below b10
  replace h_y := h_y.below b10
  replace h_g := h_g.below b10
  have s10 := b10.size
  replace B := B.trans (b10.mono B.size)
  clear b10
  go_wp2_with fail
  refine (eqF_below _ _ _ _ _ h_y.rf h_p.rf (Sm.refl _) hy).mono ?_
  rintro e w11 ⟨rfl, b11⟩
  replace HU := HU.below b11
  replace HV := HV.below b11
  replace h_w := h_w.below b11
  replace h_x := h_x.below b11
  replace h_y := h_y.below b11
  replace h_g := h_g.below b11
  replace h_p := h_p.below b11
  have s11 := b11.size
  replace B := B.trans (b11.mono B.size)
  clear b11
  go_wp2_with fail
  clear h_p at_p
  refine (markF_any _ _ _ _ _ h_x hx (by omega) (by omega)).mono ?_
  rintro e w12 ⟨rfl, h', o12⟩
  clear h_x
  have h_x := h'
  clear h'
  replace HU := HU.mark o12 at_x (by have := B.size; omega)
  replace HV := HV.mark o12 at_x (by have := B.size; omega)
  replace h_w := h_w.only o12 at_x at_w (by omega)
  replace h_y := h_y.only o12 at_x at_y (by omega)
  replace h_g := h_g.only o12 at_x at_g (by omega)
  have s12 := o12.size
  replace B := below_mark B o12 at_x (by have := B.size; omega)
  clear o12
  go_wp2_with fail
  refine (markF_any _ _ _ _ _ h_y hy (by omega) (by omega)).mono ?_
  rintro e w13 ⟨rfl, h', o13⟩
  clear h_y
  have h_y := h'
  clear h'
  replace HU := HU.mark o13 at_y (by have := B.size; omega)
  replace HV := HV.mark o13 at_y (by have := B.size; omega)
  replace h_w := h_w.only o13 at_y at_w (by omega)
  replace h_x := h_x.only o13 at_y at_x (by omega)
  replace h_g := h_g.only o13 at_y at_g (by omega)
  have s13 := o13.size
  replace B := below_mark B o13 at_y (by have := B.size; omega)
  clear o13
  go_wp2_with fail
  clear h_x at_x
  clear h_y at_y
  refine (eqF_below _ _ _ _ _ h_g.rf h_w.rf (F_g.out.trans F_w.out.symm) l_g).mono ?_
  rintro e w14 ⟨rfl, b14⟩
  replace HU := HU.below b14
  replace HV := HV.below b14
  replace h_w := h_w.below b14
  replace h_g := h_g.below b14
  have s14 := b14.size
  replace B := B.trans (b14.mono B.size)
  clear b14
  go_wp2_with fail
  refine (markF_any _ _ _ _ _ h_g l_g (by omega) (by omega)).mono ?_
  rintro e w15 ⟨rfl, h', o15⟩
  clear h_g
  have h_g := h'
  clear h'
  replace HU := HU.mark o15 at_g (by have := B.size; omega)
  replace HV := HV.mark o15 at_g (by have := B.size; omega)
  replace h_w := h_w.only o15 at_g at_w (by omega)
  have s15 := o15.size
  replace B := below_mark B o15 at_g (by have := B.size; omega)
  clear o15
  go_wp2_with fail
  refine (heldF_below _ _ _ _ h_g.rf l_g (by omega) (by omega)).mono ?_
  rintro e w16 ⟨rfl, b16⟩
  replace HU := HU.below b16
  replace HV := HV.below b16
  replace h_w := h_w.below b16
  replace h_g := h_g.below b16
  have s16 := b16.size
  replace B := B.trans (b16.mono B.size)
  clear b16
  go_wp2_with fail
  refine (toF_any _ _ _ HU.1 hx).mono ?_
  rintro e w17 ⟨v_p, rfl, h_p, b17⟩
  have at_p := At.of h_p
  replace HU := HU.below b17
  replace HV := HV.below b17
  replace h_w := h_w.below b17
  replace h_g := h_g.below b17
  have s17 := b17.size
  replace B := B.trans (b17.mono B.size)
  clear b17
  go_wp2_with fail
  refine (toF_any _ _ _ HV.1 hy).mono ?_
  rintro e w18 ⟨v_q, rfl, h_q, b18⟩
  have at_q := At.of h_q
  replace HU := HU.below b18
  replace HV := HV.below b18
  replace h_w := h_w.below b18
  replace h_g := h_g.below b18
  replace h_p := h_p.below b18
  have s18 := b18.size
  replace B := B.trans (b18.mono B.size)
  clear b18
  go_wp2_with fail
  refine (implAdd_ok _ _ _ _ _ h_p.rf h_q.rf HL.out h256).mono ?_
  rintro e w19 ⟨v_h, z_h, rfl, h_h, f_h, b19⟩
  have F_h := Lib.hid f_h
  have l_h : z_h.length ≤ 1048576 := by have e := congrArg List.length f_h; rw [List.length_map, addv_length _ _ HL.out] at e; omega
  clear f_h
  have at_h := At.of h_h
  replace HU := HU.below b19
  replace HV := HV.below b19
  replace h_w := h_w.below b19
  replace h_g := h_g.below b19
  replace h_p := h_p.below b19
  replace h_q := h_q.below b19
  have s19 := b19.size
  replace B := B.trans (b19.mono B.size)
  clear b19
  go_wp2_with fail
  clear h_p at_p
  clear h_q at_q
  refine (eqF_below _ _ _ _ _ h_h.rf h_w.rf (F_h.out.trans F_w.out.symm) l_h).mono ?_
  rintro e w20 ⟨rfl, b20⟩
  replace HU := HU.below b20
  replace HV := HV.below b20
  replace h_w := h_w.below b20
  replace h_g := h_g.below b20
  replace h_h := h_h.below b20
  have s20 := b20.size
  replace B := B.trans (b20.mono B.size)
  clear b20
  go_wp2_with fail
  refine (heldF_below _ _ _ _ h_g.rf l_g (by omega) (by omega)).mono ?_
  rintro e w21 ⟨rfl, b21⟩
  replace HU := HU.below b21
  replace HV := HV.below b21
  replace h_w := h_w.below b21
  replace h_g := h_g.below b21
  replace h_h := h_h.below b21
  have s21 := b21.size
  replace B := B.trans (b21.mono B.size)
  clear b21
  go_wp2_with fail
  go_ret
  exact ⟨rfl, B⟩

set_option maxRecDepth 100000 in
set_option maxHeartbeats 2000000 in
theorem lawAdd_no (a0 a1 : Option Addr) (c0 c1 : Nat) (xs ys : List Nat) (w : World) (hU : Rf w (.slice a0 xs.length c0) xs) (hV : Rf w (.slice a1 ys.length c1) ys) (hx : xs.length ≤ 1048576) (hy : ys.length ≤ 1048576) (hno : ¬ xs.length = ys.length ∨ 256 < xs.length) :
    Calls Try.prog 3 #[.slice a0 xs.length c0, .slice a1 ys.length c1] w fun e w' => e = .returned (.bool true) ∧ Below w.heap.size w w' := by
  have B : Below w.heap.size w w := Below.refl _ _
  have s0 := B.size
  have HU : Rb w.heap.size w (.slice a0 xs.length c0) xs := Rb.of hU
  have HV : Rb w.heap.size w (.slice a1 ys.length c1) ys := Rb.of hV
  clear hU hV
  have HN := Lib.hid hno
  clear hno
  go_enter Try.func3, Try.ntmps3
  go_wp2_with fail
  refine (toF_any _ _ _ HU.1 hx).mono ?_
  rintro e w1 ⟨v_p, rfl, h_p, b1⟩
  have at_p := At.of h_p
  replace HU := HU.below b1
  replace HV := HV.below b1
  have s1 := b1.size
  replace B := B.trans (b1.mono B.size)
  clear b1
  go_wp2_with fail
  refine (toF_any _ _ _ HV.1 hy).mono ?_
  rintro e w2 ⟨v_q, rfl, h_q, b2⟩
  have at_q := At.of h_q
  replace HU := HU.below b2
  replace HV := HV.below b2
  replace h_p := h_p.below b2
  have s2 := b2.size
  replace B := B.trans (b2.mono B.size)
  clear b2
  go_wp2_with fail
  refine (specAdd_no _ _ _ _ _ h_p.rf h_q.rf HN.out).mono ?_
  rintro e w3 ⟨v_w, rfl, h_w, b3⟩
  have at_w := At.of h_w
  replace HU := HU.below b3
  replace HV := HV.below b3
  replace h_p := h_p.below b3
  replace h_q := h_q.below b3
  have s3 := b3.size
  replace B := B.trans (b3.mono B.size)
  clear b3
  go_wp2_with fail
  clear h_p at_p
  clear h_q at_q
  refine (toF_any _ _ _ HU.1 hx).mono ?_
  rintro e w4 ⟨v_x, rfl, h_x, b4⟩
  have at_x := At.of h_x
  replace HU := HU.below b4
  replace HV := HV.below b4
  replace h_w := h_w.below b4
  have s4 := b4.size
  replace B := B.trans (b4.mono B.size)
  clear b4
  go_wp2_with fail
  refine (toF_any _ _ _ HV.1 hy).mono ?_
  rintro e w5 ⟨v_y, rfl, h_y, b5⟩
  have at_y := At.of h_y
  replace HU := HU.below b5
  replace HV := HV.below b5
  replace h_w := h_w.below b5
  replace h_x := h_x.below b5
  have s5 := b5.size
  replace B := B.trans (b5.mono B.size)
  clear b5
  go_wp2_with fail
  refine (implAdd_no _ _ _ _ _ h_x.rf h_y.rf HN.out).mono ?_
  rintro e w6 ⟨v_g, rfl, h_g, b6⟩
  have at_g := At.of h_g
  replace HU := HU.below b6
  replace HV := HV.below b6
  replace h_w := h_w.below b6
  replace h_x := h_x.below b6
  replace h_y := h_y.below b6
  have s6 := b6.size
  replace B := B.trans (b6.mono B.size)
  clear b6
  go_wp2_with fail
  refine (eqF_below _ _ _ _ _ h_g.rf h_w.rf (Sm.refl _) (Nat.zero_le _)).mono ?_
  rintro e w7 ⟨rfl, b7⟩
  replace HU := HU.below b7
  replace HV := HV.below b7
  replace h_w := h_w.below b7
  replace h_x := h_x.below b7
  replace h_y := h_y.below b7
  replace h_g := h_g.below b7
  have s7 := b7.size
  replace B := B.trans (b7.mono B.size)
  clear b7
  go_wp2_with fail
  refine (toF_any _ _ _ HU.1 hx).mono ?_
  rintro e w8 ⟨v_p, rfl, h_p, b8⟩
  have at_p := At.of h_p
  replace HU := HU.below b8
  replace HV := HV.below b8
  replace h_w := h_w.below b8
  replace h_x := h_x.below b8
  replace h_y := h_y.below b8
  replace h_g := h_g.below b8
  have s8 := b8.size
  replace B := B.trans (b8.mono B.size)
  clear b8
  go_wp2_with fail
  refine (eqF_below _ _ _ _ _ h_x.rf h_p.rf (Sm.refl _) hx).mono ?_
  rintro e w9 ⟨rfl, b9⟩
  replace HU := HU.below b9
  replace HV := HV.below b9
  replace h_w := h_w.below b9
  replace h_x := h_x.below b9
  replace h_y := h_y.below b9
  replace h_g := h_g.below b9
  replace h_p := h_p.below b9
  have s9 := b9.size
  replace B := B.trans (b9.mono B.size)
  clear b9
  go_wp2_with fail
  clear h_p at_p
  refine (toF_any _ _ _ HV.1 hy).mono ?_
  rintro e w10 ⟨v_p, rfl, h_p, b10⟩
  have at_p := At.of h_p
  replace HU := HU.below b10
  replace HV := HV.below b10
  replace h_w := h_w.below b10
  replace h_x := h_x.below b10
  replace h_y := h_y.below b10
  replace h_g := h_g.below b10
  have s10 := b10.size
  replace B := B.trans (b10.mono B.size)
  clear b10
  go_wp2_with fail
  refine (eqF_below _ _ _ _ _ h_y.rf h_p.rf (Sm.refl _) hy).mono ?_
  rintro e w11 ⟨rfl, b11⟩
  replace HU := HU.below b11
  replace HV := HV.below b11
  replace h_w := h_w.below b11
  replace h_x := h_x.below b11
  replace h_y := h_y.below b11
  replace h_g := h_g.below b11
  replace h_p := h_p.below b11
  have s11 := b11.size
  replace B := B.trans (b11.mono B.size)
  clear b11
  go_wp2_with fail
  clear h_p at_p
  refine (markF_any _ _ _ _ _ h_x hx (by omega) (by omega)).mono ?_
  rintro e w12 ⟨rfl, h', o12⟩
  clear h_x
  have h_x := h'
  clear h'
  replace HU := HU.mark o12 at_x (by have := B.size; omega)
  replace HV := HV.mark o12 at_x (by have := B.size; omega)
  replace h_w := h_w.only o12 at_x at_w (by omega)
  replace h_y := h_y.only o12 at_x at_y (by omega)
  replace h_g := h_g.only o12 at_x at_g (by omega)
  have s12 := o12.size
  replace B := below_mark B o12 at_x (by have := B.size; omega)
  clear o12
  go_wp2_with fail
  refine (markF_any _ _ _ _ _ h_y hy (by omega) (by omega)).mono ?_
  rintro e w13 ⟨rfl, h', o13⟩
  clear h_y
  have h_y := h'
  clear h'
  replace HU := HU.mark o13 at_y (by have := B.size; omega)
  replace HV := HV.mark o13 at_y (by have := B.size; omega)
  replace h_w := h_w.only o13 at_y at_w (by omega)
  replace h_x := h_x.only o13 at_y at_x (by omega)
  replace h_g := h_g.only o13 at_y at_g (by omega)
  have s13 := o13.size
  replace B := below_mark B o13 at_y (by have := B.size; omega)
  clear o13
  go_wp2_with fail
  clear h_x at_x
  clear h_y at_y
  refine (eqF_below _ _ _ _ _ h_g.rf h_w.rf (Sm.refl _) (Nat.zero_le _)).mono ?_
  rintro e w14 ⟨rfl, b14⟩
  replace HU := HU.below b14
  replace HV := HV.below b14
  replace h_w := h_w.below b14
  replace h_g := h_g.below b14
  have s14 := b14.size
  replace B := B.trans (b14.mono B.size)
  clear b14
  go_wp2_with fail
  refine (markF_any _ _ _ _ _ h_g (Nat.zero_le _) (by omega) (by omega)).mono ?_
  rintro e w15 ⟨rfl, h', o15⟩
  clear h_g
  have h_g := h'
  clear h'
  replace HU := HU.mark o15 at_g (by have := B.size; omega)
  replace HV := HV.mark o15 at_g (by have := B.size; omega)
  replace h_w := h_w.only o15 at_g at_w (by omega)
  have s15 := o15.size
  replace B := below_mark B o15 at_g (by have := B.size; omega)
  clear o15
  go_wp2_with fail
  refine (heldF_below _ _ _ _ h_g.rf (Nat.zero_le _) (by omega) (by omega)).mono ?_
  rintro e w16 ⟨rfl, b16⟩
  replace HU := HU.below b16
  replace HV := HV.below b16
  replace h_w := h_w.below b16
  replace h_g := h_g.below b16
  have s16 := b16.size
  replace B := B.trans (b16.mono B.size)
  clear b16
  go_wp2_with fail
  refine (toF_any _ _ _ HU.1 hx).mono ?_
  rintro e w17 ⟨v_p, rfl, h_p, b17⟩
  have at_p := At.of h_p
  replace HU := HU.below b17
  replace HV := HV.below b17
  replace h_w := h_w.below b17
  replace h_g := h_g.below b17
  have s17 := b17.size
  replace B := B.trans (b17.mono B.size)
  clear b17
  go_wp2_with fail
  refine (toF_any _ _ _ HV.1 hy).mono ?_
  rintro e w18 ⟨v_q, rfl, h_q, b18⟩
  have at_q := At.of h_q
  replace HU := HU.below b18
  replace HV := HV.below b18
  replace h_w := h_w.below b18
  replace h_g := h_g.below b18
  replace h_p := h_p.below b18
  have s18 := b18.size
  replace B := B.trans (b18.mono B.size)
  clear b18
  go_wp2_with fail
  refine (implAdd_no _ _ _ _ _ h_p.rf h_q.rf HN.out).mono ?_
  rintro e w19 ⟨v_h, rfl, h_h, b19⟩
  have at_h := At.of h_h
  replace HU := HU.below b19
  replace HV := HV.below b19
  replace h_w := h_w.below b19
  replace h_g := h_g.below b19
  replace h_p := h_p.below b19
  replace h_q := h_q.below b19
  have s19 := b19.size
  replace B := B.trans (b19.mono B.size)
  clear b19
  go_wp2_with fail
  clear h_p at_p
  clear h_q at_q
  refine (eqF_below _ _ _ _ _ h_h.rf h_w.rf (Sm.refl _) (Nat.zero_le _)).mono ?_
  rintro e w20 ⟨rfl, b20⟩
  replace HU := HU.below b20
  replace HV := HV.below b20
  replace h_w := h_w.below b20
  replace h_g := h_g.below b20
  replace h_h := h_h.below b20
  have s20 := b20.size
  replace B := B.trans (b20.mono B.size)
  clear b20
  go_wp2_with fail
  refine (heldF_below _ _ _ _ h_g.rf (Nat.zero_le _) (by omega) (by omega)).mono ?_
  rintro e w21 ⟨rfl, b21⟩
  replace HU := HU.below b21
  replace HV := HV.below b21
  replace h_w := h_w.below b21
  replace h_g := h_g.below b21
  replace h_h := h_h.below b21
  have s21 := b21.size
  replace B := B.trans (b21.mono B.size)
  clear b21
  go_wp2_with fail
  go_ret
  exact ⟨rfl, B⟩

set_option maxRecDepth 100000 in
set_option maxHeartbeats 400000 in
theorem lawAdd_big (w : World) (a0 a1 : Option Addr) (n0 n1 c0 c1 : Nat) (h : 1048576 < n0 ∨ 1048576 < n1) :
    Calls Try.prog 3 #[.slice a0 n0 c0, .slice a1 n1 c1] w fun e w' => e = .returned (.bool true) ∧ Below w.heap.size w w' := by
  by_cases h0 : 1048576 < n0
  · clear h
    go_enter Try.func3, Try.ntmps3
    go_wp2_with fail
    go_ret
    exact ⟨rfl, Below.refl _ _⟩
  · have h1 : 1048576 < n1 := by omega
    clear h
    go_enter Try.func3, Try.ntmps3
    go_wp2_with fail
    go_ret
    exact ⟨rfl, Below.refl _ _⟩

theorem lawAdd (w : World) (a0 : Option Addr) (n0 c0 : Nat) (xs : List Nat) (hU : Rf w (.slice a0 n0 c0) xs) (a1 : Option Addr) (n1 c1 : Nat) (ys : List Nat) (hV : Rf w (.slice a1 n1 c1) ys) :
    Calls Try.prog 3 #[.slice a0 n0 c0, .slice a1 n1 c1] w fun e w' => e = .returned (.bool true) ∧ Below w.heap.size w w' := by
  have e0 := hU.len
  have e1 := hV.len
  subst e0 e1
  by_cases hb : 1048576 < xs.length ∨ 1048576 < ys.length
  · exact lawAdd_big w a0 a1 _ _ c0 c1 hb
  · by_cases hk : xs.length = ys.length ∧ xs.length ≤ 256
    · exact lawAdd_ok a0 a1 c0 c1 xs ys w hU hV (by omega) (by omega) hk.1 hk.2
    · exact lawAdd_no a0 a1 c0 c1 xs ys w hU hV (by omega) (by omega) (by omega)

end Go.Proofs.Ytbjllfnjecggfaa
