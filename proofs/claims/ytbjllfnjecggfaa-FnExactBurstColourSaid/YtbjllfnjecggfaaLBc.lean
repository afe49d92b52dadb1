/- Walk: the law FnExactBurstColour returns true. -/
import Derived.Test.YtbjllfnjecggfaaBb
import Derived.Test.YtbjllfnjecggfaaCg
namespace Go.Proofs.Ytbjllfnjecggfaa
open Go.RowKit

theorem eqF_below (u v : Value) (xs ys : List Nat) (w : World) (hU : Rf w u xs) (hV : Rf w v ys) (hs : Sm xs ys) (hlen : xs.length ≤ 1048576) :
    Calls Try.prog 28 #[u, v] w fun e w' => e = .returned (.bool true) ∧ Below w.heap.size w w' :=
  (eqF_any u v xs ys w hU hV hs hlen).mono fun e w' ⟨he, n, hw⟩ => ⟨he, by rw [hw]; exact below_drewN (Below.refl _ _) n⟩
theorem heldF_below (v : Value) (k : Int) (n : Nat) (w : World) (hR : Rf w v (mk k n)) (hlen : n ≤ 1048576) (hk0 : 0 ≤ k) (hk : k ≤ 100000000) :
    Calls Try.prog 30 #[v, .int .i64 k] w fun e w' => e = .returned (.int .i64 (k + n)) ∧ Below w.heap.size w w' :=
  (heldF_any v k n w hR hlen hk0 hk).mono fun e w' ⟨he, hw⟩ => ⟨he, by rw [← hw]; exact Below.refl _ _⟩

set_option maxRecDepth 100000 in
set_option maxHeartbeats 2000000 in
theorem lawBc_true (a0 : Option Addr) (c0 : Nat) (xs : List Nat) (w : World) (hU : Rf w (.slice a0 xs.length c0) xs) (hx : xs.length ≤ 1048576) (hq : bcOk xs = true) :
    Calls Try.prog 18 #[.slice a0 xs.length c0] w fun e w' => e = .returned (.bool true) ∧ Below w.heap.size w w' := by
  have B : Below w.heap.size w w := Below.refl _ _
  have s0 := B.size
  have HU : Rb w.heap.size w (.slice a0 xs.length c0) xs := Rb.of hU
  clear hU
  have HQ := Lib.hid hq
  clear hq
  go_enter Try.func18, Try.ntmps18
  go_wp2_with fail
  refine (toF_any _ _ _ HU.1 hx).mono ?_
  rintro e w1 ⟨v_p, rfl, h_p, b1⟩
  have at_p := At.of h_p
  replace HU := HU.below b1
  have s1 := b1.size
  replace B := B.trans (b1.mono B.size)
  clear b1
  go_wp2_with fail
  refine (bcS_any _ xs true _ h_p.rf hx HQ.out).mono ?_
  rintro e w2 ⟨re_w, im_w, rfl, f_w, b2⟩
  have F_w := Lib.hid f_w
  clear f_w
  replace HU := HU.below b2
  replace h_p := h_p.below b2
  have s2 := b2.size
  replace B := B.trans (b2.mono B.size)
  clear b2
  go_wp2_with fail
  clear h_p at_p
  refine (toF_any _ _ _ HU.1 hx).mono ?_
  rintro e w3 ⟨v_x, rfl, h_x, b3⟩
  have at_x := At.of h_x
  replace HU := HU.below b3
  have s3 := b3.size
  replace B := B.trans (b3.mono B.size)
  clear b3
  go_wp2_with fail
  refine (bcI_any _ xs true _ h_x.rf hx HQ.out).mono ?_
  rintro e w4 ⟨re_g, im_g, rfl, f_g, b4⟩
  have F_g := Lib.hid f_g
  clear f_g
  replace HU := HU.below b4
  replace h_x := h_x.below b4
  have s4 := b4.size
  replace B := B.trans (b4.mono B.size)
  clear b4
  go_wp2_with fail
  have HE := Lib.hid (F_g.out.trans F_w.out.symm)
  have E1 := Lib.hid (congrArg Prod.fst HE.out)
  have E2 := Lib.hid (congrArg Prod.snd HE.out)
  clear HE
  refine (sameC_any _ _ _ _ _ (by rw [Fl.fv_widen, Fl.fv_widen]; exact congrArg Fl.widen E1.out) (by rw [Fl.fv_widen, Fl.fv_widen]; exact congrArg Fl.widen E2.out)).mono ?_
  rintro e w5 ⟨rfl, m, hm⟩
  have b5 : Below w4.heap.size w4 w5 := by rw [hm]; repeat (first | exact Below.refl _ _ | refine below_drewN ?_ _ | refine Below.drew ?_)
  clear hm
  replace HU := HU.below b5
  replace h_x := h_x.below b5
  have s5 := b5.size
  replace B := B.trans (b5.mono B.size)
  clear b5
  go_wp2_with fail
  refine (toF_any _ _ _ HU.1 hx).mono ?_
  rintro e w6 ⟨v_p, rfl, h_p, b6⟩
  have at_p := At.of h_p
  replace HU := HU.below b6
  replace h_x := h_x.below b6
  have s6 := b6.size
  replace B := B.trans (b6.mono B.size)
  clear b6
  go_wp2_with fail
  refine (eqF_below _ _ _ _ _ h_x.rf h_p.rf (Sm.refl _) hx).mono ?_
  rintro e w7 ⟨rfl, b7⟩
  replace HU := HU.below b7
  replace h_x := h_x.below b7
  replace h_p := h_p.below b7
  have s7 := b7.size
  replace B := B.trans (b7.mono B.size)
  clear b7
  go_wp2_with fail
  clear h_p at_p
  go_ret
  exact ⟨rfl, B⟩

set_option maxRecDepth 100000 in
set_option maxHeartbeats 2000000 in
theorem lawBc_false (a0 : Option Addr) (c0 : Nat) (xs : List Nat) (w : World) (hU : Rf w (.slice a0 xs.length c0) xs) (hx : xs.length ≤ 1048576) (hq : bcOk xs = false) :
    Calls Try.prog 18 #[.slice a0 xs.length c0] w fun e w' => e = .returned (.bool true) ∧ Below w.heap.size w w' := by
  have B : Below w.heap.size w w := Below.refl _ _
  have s0 := B.size
  have HU : Rb w.heap.size w (.slice a0 xs.length c0) xs := Rb.of hU
  clear hU
  have HQ := Lib.hid hq
  clear hq
  go_enter Try.func18, Try.ntmps18
  go_wp2_with fail
  refine (toF_any _ _ _ HU.1 hx).mono ?_
  rintro e w1 ⟨v_p, rfl, h_p, b1⟩
  have at_p := At.of h_p
  replace HU := HU.below b1
  have s1 := b1.size
  replace B := B.trans (b1.mono B.size)
  clear b1
  go_wp2_with fail
  refine (bcS_any _ xs false _ h_p.rf hx HQ.out).mono ?_
  rintro e w2 ⟨re_w, im_w, rfl, f_w, b2⟩
  have F_w := Lib.hid f_w
  clear f_w
  replace HU := HU.below b2
  replace h_p := h_p.below b2
  have s2 := b2.size
  replace B := B.trans (b2.mono B.size)
  clear b2
  go_wp2_with fail
  clear h_p at_p
  refine (toF_any _ _ _ HU.1 hx).mono ?_
  rintro e w3 ⟨v_x, rfl, h_x, b3⟩
  have at_x := At.of h_x
  replace HU := HU.below b3
  have s3 := b3.size
  replace B := B.trans (b3.mono B.size)
  clear b3
  go_wp2_with fail
  refine (bcI_any _ xs false _ h_x.rf hx HQ.out).mono ?_
  rintro e w4 ⟨re_g, im_g, rfl, f_g, b4⟩
  have F_g := Lib.hid f_g
  clear f_g
  replace HU := HU.below b4
  replace h_x := h_x.below b4
  have s4 := b4.size
  replace B := B.trans (b4.mono B.size)
  clear b4
  go_wp2_with fail
  have HE := Lib.hid (F_g.out.trans F_w.out.symm)
  have E1 := Lib.hid (congrArg Prod.fst HE.out)
  have E2 := Lib.hid (congrArg Prod.snd HE.out)
  clear HE
  refine (sameC_any _ _ _ _ _ (by rw [Fl.fv_widen, Fl.fv_widen]; exact congrArg Fl.widen E1.out) (by rw [Fl.fv_widen, Fl.fv_widen]; exact congrArg Fl.widen E2.out)).mono ?_
  rintro e w5 ⟨rfl, m, hm⟩
  have b5 : Below w4.heap.size w4 w5 := by rw [hm]; repeat (first | exact Below.refl _ _ | refine below_drewN ?_ _ | refine Below.drew ?_)
  clear hm
  replace HU := HU.below b5
  replace h_x := h_x.below b5
  have s5 := b5.size
  replace B := B.trans (b5.mono B.size)
  clear b5
  go_wp2_with fail
  refine (toF_any _ _ _ HU.1 hx).mono ?_
  rintro e w6 ⟨v_p, rfl, h_p, b6⟩
  have at_p := At.of h_p
  replace HU := HU.below b6
  replace h_x := h_x.below b6
  have s6 := b6.size
  replace B := B.trans (b6.mono B.size)
  clear b6
  go_wp2_with fail
  refine (eqF_below _ _ _ _ _ h_x.rf h_p.rf (Sm.refl _) hx).mono ?_
  rintro e w7 ⟨rfl, b7⟩
  replace HU := HU.below b7
  replace h_x := h_x.below b7
  replace h_p := h_p.below b7
  have s7 := b7.size
  replace B := B.trans (b7.mono B.size)
  clear b7
  go_wp2_with fail
  clear h_p at_p
  go_ret
  exact ⟨rfl, B⟩

set_option maxRecDepth 100000 in
set_option maxHeartbeats 400000 in
theorem lawBc_big (w : World) (a0 : Option Addr) (n0 c0 : Nat) (h : 1048576 < n0) :
    Calls Try.prog 18 #[.slice a0 n0 c0] w fun e w' => e = .returned (.bool true) ∧ Below w.heap.size w w' := by
  go_enter Try.func18, Try.ntmps18
  go_wp2_with fail
  go_ret
  exact ⟨rfl, Below.refl _ _⟩

theorem lawBc (w : World) (a0 : Option Addr) (n0 c0 : Nat) (xs : List Nat) (hU : Rf w (.slice a0 n0 c0) xs) :
    Calls Try.prog 18 #[.slice a0 n0 c0] w fun e w' => e = .returned (.bool true) ∧ Below w.heap.size w w' := by
  have e0 := hU.len
  subst e0
  by_cases hb : 1048576 < xs.length
  · exact lawBc_big w a0 _ c0 hb
  · cases hq : bcOk xs
    · exact lawBc_false a0 c0 xs w hU (by omega) hq
    · exact lawBc_true a0 c0 xs w hU (by omega) hq

end Go.Proofs.Ytbjllfnjecggfaa
