/- Walk: the law FnExactColouring returns true. -/
import Derived.Test.YtbjllfnjecggfaaDd
import Derived.Test.YtbjllfnjecggfaaWh
namespace Go.Proofs.Ytbjllfnjecggfaa
open Go.RowKit

theorem colq_len {xs : List Nat} {q : Bool} (h : decOk xs false = q) : (if q then colv xs (brF (decl xs false (xs.length / 4))) else []).length ≤ 1048576 := by
  cases q
  · simp
  · have := decOk_len h; simp only [↓reduceIte]; rw [colv_len _ _ (brE_len h)]; omega
theorem eqF_below (u v : Value) (xs ys : List Nat) (w : World) (hU : Rf w u xs) (hV : Rf w v ys) (hs : Sm xs ys) (hlen : xs.length ≤ 1048576) :
    Calls Try.prog 28 #[u, v] w fun e w' => e = .returned (.bool true) ∧ Below w.heap.size w w' :=
  (eqF_any u v xs ys w hU hV hs hlen).mono fun e w' ⟨he, n, hw⟩ => ⟨he, by rw [hw]; exact below_drewN (Below.refl _ _) n⟩
theorem heldF_below (v : Value) (k : Int) (n : Nat) (w : World) (hR : Rf w v (mk k n)) (hlen : n ≤ 1048576) (hk0 : 0 ≤ k) (hk : k ≤ 100000000) :
    Calls Try.prog 30 #[v, .int .i64 k] w fun e w' => e = .returned (.int .i64 (k + n)) ∧ Below w.heap.size w w' :=
  (heldF_any v k n w hR hlen hk0 hk).mono fun e w' ⟨he, hw⟩ => ⟨he, by rw [← hw]; exact Below.refl _ _⟩

set_option maxRecDepth 100000 in
set_option maxHeartbeats 2000000 in
theorem lawCol_true (a0 : Option Addr) (c0 : Nat) (xs : List Nat) (w : World) (hU : Rf w (.slice a0 xs.length c0) xs) (hx : xs.length ≤ 1048576) (hq : decOk xs false = true) :
    Calls Try.prog 14 #[.slice a0 xs.length c0] w fun e w' => e = .returned (.bool true) ∧ Below w.heap.size w w' := by
  have B : Below w.heap.size w w := Below.refl _ _
  have s0 := B.size
  have HU : Rb w.heap.size w (.slice a0 xs.length c0) xs := Rb.of hU
  clear hU
  have HQ := Lib.hid hq
  have hD := colq_len hq
  clear hq
  go_enter Try.func14, Try.ntmps14
  go_wp2_with fail
  refine (toF_any _ _ _ HU.1 hx).mono ?_
  rintro e w1 ⟨v_p, rfl, h_p, b1⟩
  have at_p := At.of h_p
  replace HU := HU.below b1
  have s1 := b1.size
  replace B := B.trans (b1.mono B.size)
  clear b1
  go_wp2_with fail
  refine (colS_any _ xs true _ h_p.rf hx HQ.out).mono ?_
  rintro e w2 ⟨v_w, z_w, rfl, h_w, f_w, b2⟩
  have F_w := Lib.hid f_w
  have l_w : z_w.length ≤ 1048576 := by rw [← List.length_map (f := Fl.fv .f32), f_w]; exact hD
  clear f_w
  have at_w := At.of h_w
  replace HU := HU.below b2
  replace h_p := h_p.below b2
  have s2 := b2.size
  replace B := B.trans (b2.mono B.size)
  clear b2
  go_wp2_with fail
  clear h_p at_p
  refine (toF_any _ _ _ HU.1 hx).mono ?_
  rintro e w3 ⟨v_x, rfl, h_x, b3⟩
  have at_x := At.of h_x
  replace HU := HU.below b3
  replace h_w := h_w.below b3
  have s3 := b3.size
  replace B := B.trans (b3.mono B.size)
  clear b3
  go_wp2_with fail
  refine (colI_any _ xs true _ h_x.rf hx HQ.out).mono ?_
  rintro e w4 ⟨v_g, z_g, rfl, h_g, f_g, b4⟩
  have F_g := Lib.hid f_g
  have l_g : z_g.length ≤ 1048576 := by rw [← List.length_map (f := Fl.fv .f32), f_g]; exact hD
  clear f_g
  have at_g := At.of h_g
  replace HU := HU.below b4
  replace h_w := h_w.below b4
  replace h_x := h_x.below b4
  have s4 := b4.size
  replace B := B.trans (b4.mono B.size)
  clear b4
  go_wp2_with fail
  refine (eqF_below _ _ _ _ _ h_g.rf h_w.rf (F_g.out.trans F_w.out.symm) l_g).mono ?_
  rintro e w5 ⟨rfl, b5⟩
  replace HU := HU.below b5
  replace h_w := h_w.below b5
  replace h_x := h_x.below b5
  replace h_g := h_g.below b5
  have s5 := b5.size
  replace B := B.trans (b5.mono B.size)
  clear b5
  go_wp2_with fail
  refine (toF_any _ _ _ HU.1 hx).mono ?_
  rintro e w6 ⟨v_p, rfl, h_p, b6⟩
  have at_p := At.of h_p
  replace HU := HU.below b6
  replace h_w := h_w.below b6
  replace h_x := h_x.below b6
  replace h_g := h_g.below b6
  have s6 := b6.size
  replace B := B.trans (b6.mono B.size)
  clear b6
  go_wp2_with fail
  refine (eqF_below _ _ _ _ _ h_x.rf h_p.rf (Sm.refl _) hx).mono ?_
  rintro e w7 ⟨rfl, b7⟩
  replace HU := HU.below b7
  replace h_w := h_w.below b7
  replace h_x := h_x.below b7
  replace h_g := h_g.below b7
  replace h_p := h_p.below b7
  have s7 := b7.size
  replace B := B.trans (b7.mono B.size)
  clear b7
  go_wp2_with fail
  clear h_p at_p
  refine (markF_any _ _ _ _ _ h_x hx (by omega) (by omega)).mono ?_
  rintro e w8 ⟨rfl, h', o8⟩
  clear h_x
  have h_x := h'
  clear h'
  replace HU := HU.mark o8 at_x (by have := B.size; omega)
  replace h_w := h_w.only o8 at_x at_w (by omega)
  replace h_g := h_g.only o8 at_x at_g (by omega)
  have s8 := o8.size
  replace B := below_mark B o8 at_x (by have := B.size; omega)
  clear o8
  go_wp2_with fail
  clear h_x at_x
  refine (eqF_below _ _ _ _ _ h_g.rf h_w.rf (F_g.out.trans F_w.out.symm) l_g).mono ?_
  rintro e w9 ⟨rfl, b9⟩
  replace HU := HU.below b9
  replace h_w := h_w.below b9
  replace h_g := h_g.below b9
  have s9 := b9.size
  replace B := B.trans (b9.mono B.size)
  clear b9
  go_wp2_with fail
  refine (markF_any _ _ _ _ _ h_g l_g (by omega) (by omega)).mono ?_
  rintro e w10 ⟨rfl, h', o10⟩
  clear h_g
  have h_g := h'
  clear h'
  replace HU := HU.mark o10 at_g (by have := B.size; omega)
  replace h_w := h_w.only o10 at_g at_w (by omega)
  have s10 := o10.size
  replace B := below_mark B o10 at_g (by have := B.size; omega)
  clear o10
  go_wp2_with fail
  refine (heldF_below _ _ _ _ h_g.rf l_g (by omega) (by omega)).mono ?_
  rintro e w11 ⟨rfl, b11⟩
  replace HU := HU.below b11
  replace h_w := h_w.below b11
  replace h_g := h_g.below b11
  have s11 := b11.size
  replace B := B.trans (b11.mono B.size)
  clear b11
  go_wp2_with fail
  refine (toF_any _ _ _ HU.1 hx).mono ?_
  rintro e w12 ⟨v_p, rfl, h_p, b12⟩
  have at_p := At.of h_p
  replace HU := HU.below b12
  replace h_w := h_w.below b12
  replace h_g := h_g.below b12
  have s12 := b12.size
  replace B := B.trans (b12.mono B.size)
  clear b12
  go_wp2_with fail
  refine (colI_any _ xs true _ h_p.rf hx HQ.out).mono ?_
  rintro e w13 ⟨v_h, z_h, rfl, h_h, f_h, b13⟩
  have F_h := Lib.hid f_h
  have l_h : z_h.length ≤ 1048576 := by rw [← List.length_map (f := Fl.fv .f32), f_h]; exact hD
  clear f_h
  have at_h := At.of h_h
  replace HU := HU.below b13
  replace h_w := h_w.below b13
  replace h_g := h_g.below b13
  replace h_p := h_p.below b13
  have s13 := b13.size
  replace B := B.trans (b13.mono B.size)
  clear b13
  go_wp2_with fail
  clear h_p at_p
  refine (eqF_below _ _ _ _ _ h_h.rf h_w.rf (F_h.out.trans F_w.out.symm) l_h).mono ?_
  rintro e w14 ⟨rfl, b14⟩
  replace HU := HU.below b14
  replace h_w := h_w.below b14
  replace h_g := h_g.below b14
  replace h_h := h_h.below b14
  have s14 := b14.size
  replace B := B.trans (b14.mono B.size)
  clear b14
  go_wp2_with fail
  refine (heldF_below _ _ _ _ h_g.rf l_g (by omega) (by omega)).mono ?_
  rintro e w15 ⟨rfl, b15⟩
  replace HU := HU.below b15
  replace h_w := h_w.below b15
  replace h_g := h_g.below b15
  replace h_h := h_h.below b15
  have s15 := b15.size
  replace B := B.trans (b15.mono B.size)
  clear b15
  go_wp2_with fail
  go_ret
  exact ⟨rfl, B⟩

set_option maxRecDepth 100000 in
set_option maxHeartbeats 2000000 in
theorem lawCol_false (a0 : Option Addr) (c0 : Nat) (xs : List Nat) (w : World) (hU : Rf w (.slice a0 xs.length c0) xs) (hx : xs.length ≤ 1048576) (hq : decOk xs false = false) :
    Calls Try.prog 14 #[.slice a0 xs.length c0] w fun e w' => e = .returned (.bool true) ∧ Below w.heap.size w w' := by
  have B : Below w.heap.size w w := Below.refl _ _
  have s0 := B.size
  have HU : Rb w.heap.size w (.slice a0 xs.length c0) xs := Rb.of hU
  clear hU
  have HQ := Lib.hid hq
  have hD := colq_len hq
  clear hq
  go_enter Try.func14, Try.ntmps14
  go_wp2_with fail
  refine (toF_any _ _ _ HU.1 hx).mono ?_
  rintro e w1 ⟨v_p, rfl, h_p, b1⟩
  have at_p := At.of h_p
  replace HU := HU.below b1
  have s1 := b1.size
  replace B := B.trans (b1.mono B.size)
  clear b1
  go_wp2_with fail
  refine (colS_any _ xs false _ h_p.rf hx HQ.out).mono ?_
  rintro e w2 ⟨v_w, z_w, rfl, h_w, f_w, b2⟩
  have F_w := Lib.hid f_w
  have l_w : z_w.length ≤ 1048576 := by rw [← List.length_map (f := Fl.fv .f32), f_w]; exact hD
  clear f_w
  have at_w := At.of h_w
  replace HU := HU.below b2
  replace h_p := h_p.below b2
  have s2 := b2.size
  replace B := B.trans (b2.mono B.size)
  clear b2
  go_wp2_with fail
  clear h_p at_p
  refine (toF_any _ _ _ HU.1 hx).mono ?_
  rintro e w3 ⟨v_x, rfl, h_x, b3⟩
  have at_x := At.of h_x
  replace HU := HU.below b3
  replace h_w := h_w.below b3
  have s3 := b3.size
  replace B := B.trans (b3.mono B.size)
  clear b3
  go_wp2_with fail
  refine (colI_any _ xs false _ h_x.rf hx HQ.out).mono ?_
  rintro e w4 ⟨v_g, z_g, rfl, h_g, f_g, b4⟩
  have F_g := Lib.hid f_g
  have l_g : z_g.length ≤ 1048576 := by rw [← List.length_map (f := Fl.fv .f32), f_g]; exact hD
  clear f_g
  have at_g := At.of h_g
  replace HU := HU.below b4
  replace h_w := h_w.below b4
  replace h_x := h_x.below b4
  have s4 := b4.size
  replace B := B.trans (b4.mono B.size)
  clear b4
  go_wp2_with fail
  refine (eqF_below _ _ _ _ _ h_g.rf h_w.rf (F_g.out.trans F_w.out.symm) l_g).mono ?_
  rintro e w5 ⟨rfl, b5⟩
  replace HU := HU.below b5
  replace h_w := h_w.below b5
  replace h_x := h_x.below b5
  replace h_g := h_g.below b5
  have s5 := b5.size
  replace B := B.trans (b5.mono B.size)
  clear b5
  go_wp2_with fail
  refine (toF_any _ _ _ HU.1 hx).mono ?_
  rintro e w6 ⟨v_p, rfl, h_p, b6⟩
  have at_p := At.of h_p
  replace HU := HU.below b6
  replace h_w := h_w.below b6
  replace h_x := h_x.below b6
  replace h_g := h_g.below b6
  have s6 := b6.size
  replace B := B.trans (b6.mono B.size)
  clear b6
  go_wp2_with fail
  refine (eqF_below _ _ _ _ _ h_x.rf h_p.rf (Sm.refl _) hx).mono ?_
  rintro e w7 ⟨rfl, b7⟩
  replace HU := HU.below b7
  replace h_w := h_w.below b7
  replace h_x := h_x.below b7
  replace h_g := h_g.below b7
  replace h_p := h_p.below b7
  have s7 := b7.size
  replace B := B.trans (b7.mono B.size)
  clear b7
  go_wp2_with fail
  clear h_p at_p
  refine (markF_any _ _ _ _ _ h_x hx (by omega) (by omega)).mono ?_
  rintro e w8 ⟨rfl, h', o8⟩
  clear h_x
  have h_x := h'
  clear h'
  replace HU := HU.mark o8 at_x (by have := B.size; omega)
  replace h_w := h_w.only o8 at_x at_w (by omega)
  replace h_g := h_g.only o8 at_x at_g (by omega)
  have s8 := o8.size
  replace B := below_mark B o8 at_x (by have := B.size; omega)
  clear o8
  go_wp2_with fail
  clear h_x at_x
  refine (eqF_below _ _ _ _ _ h_g.rf h_w.rf (F_g.out.trans F_w.out.symm) l_g).mono ?_
  rintro e w9 ⟨rfl, b9⟩
  replace HU := HU.below b9
  replace h_w := h_w.below b9
  replace h_g := h_g.below b9
  have s9 := b9.size
  replace B := B.trans (b9.mono B.size)
  clear b9
  go_wp2_with fail
  refine (markF_any _ _ _ _ _ h_g l_g (by omega) (by omega)).mono ?_
  rintro e w10 ⟨rfl, h', o10⟩
  clear h_g
  have h_g := h'
  clear h'
  replace HU := HU.mark o10 at_g (by have := B.size; omega)
  replace h_w := h_w.only o10 at_g at_w (by omega)
  have s10 := o10.size
  replace B := below_mark B o10 at_g (by have := B.size; omega)
  clear o10
  go_wp2_with fail
  refine (heldF_below _ _ _ _ h_g.rf l_g (by omega) (by omega)).mono ?_
  rintro e w11 ⟨rfl, b11⟩
  replace HU := HU.below b11
  replace h_w := h_w.below b11
  replace h_g := h_g.below b11
  have s11 := b11.size
  replace B := B.trans (b11.mono B.size)
  clear b11
  go_wp2_with fail
  refine (toF_any _ _ _ HU.1 hx).mono ?_
  rintro e w12 ⟨v_p, rfl, h_p, b12⟩
  have at_p := At.of h_p
  replace HU := HU.below b12
  replace h_w := h_w.below b12
  replace h_g := h_g.below b12
  have s12 := b12.size
  replace B := B.trans (b12.mono B.size)
  clear b12
  go_wp2_with fail
  refine (colI_any _ xs false _ h_p.rf hx HQ.out).mono ?_
  rintro e w13 ⟨v_h, z_h, rfl, h_h, f_h, b13⟩
  have F_h := Lib.hid f_h
  have l_h : z_h.length ≤ 1048576 := by rw [← List.length_map (f := Fl.fv .f32), f_h]; exact hD
  clear f_h
  have at_h := At.of h_h
  replace HU := HU.below b13
  replace h_w := h_w.below b13
  replace h_g := h_g.below b13
  replace h_p := h_p.below b13
  have s13 := b13.size
  replace B := B.trans (b13.mono B.size)
  clear b13
  go_wp2_with fail
  clear h_p at_p
  refine (eqF_below _ _ _ _ _ h_h.rf h_w.rf (F_h.out.trans F_w.out.symm) l_h).mono ?_
  rintro e w14 ⟨rfl, b14⟩
  replace HU := HU.below b14
  replace h_w := h_w.below b14
  replace h_g := h_g.below b14
  replace h_h := h_h.below b14
  have s14 := b14.size
  replace B := B.trans (b14.mono B.size)
  clear b14
  go_wp2_with fail
  refine (heldF_below _ _ _ _ h_g.rf l_g (by omega) (by omega)).mono ?_
  rintro e w15 ⟨rfl, b15⟩
  replace HU := HU.below b15
  replace h_w := h_w.below b15
  replace h_g := h_g.below b15
  replace h_h := h_h.below b15
  have s15 := b15.size
  replace B := B.trans (b15.mono B.size)
  clear b15
  go_wp2_with fail
  go_ret
  exact ⟨rfl, B⟩

set_option maxRecDepth 100000 in
set_option maxHeartbeats 400000 in
theorem lawCol_big (w : World) (a0 : Option Addr) (n0 c0 : Nat) (h : 1048576 < n0) :
    Calls Try.prog 14 #[.slice a0 n0 c0] w fun e w' => e = .returned (.bool true) ∧ Below w.heap.size w w' := by
  go_enter Try.func14, Try.ntmps14
  go_wp2_with fail
  go_ret
  exact ⟨rfl, Below.refl _ _⟩

theorem lawCol (w : World) (a0 : Option Addr) (n0 c0 : Nat) (xs : List Nat) (hU : Rf w (.slice a0 n0 c0) xs) :
    Calls Try.prog 14 #[.slice a0 n0 c0] w fun e w' => e = .returned (.bool true) ∧ Below w.heap.size w w' := by
  have e0 := hU.len
  subst e0
  by_cases hb : 1048576 < xs.length
  · exact lawCol_big w a0 _ c0 hb
  · cases hq : decOk xs false
    · exact lawCol_false a0 c0 xs w hU (by omega) hq
    · exact lawCol_true a0 c0 xs w hU (by omega) hq

end Go.Proofs.Ytbjllfnjecggfaa
