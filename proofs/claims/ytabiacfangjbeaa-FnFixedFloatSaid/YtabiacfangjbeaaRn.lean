/- Walk: the law FnFixedFloat returns true. -/
import Derived.Test.YtabiacfangjbeaaRk
import Derived.Test.YtabiacfangjbeaaRm
import Derived.Test.YtabiacfangjbeaaEf
import Derived.Test.YtabiacfangjbeaaVdF
import Derived.Test.YtabiacfangjbeaaBg
namespace Go.Proofs.Ytabiacfangjbeaa
open Go.RowKit

theorem fromI_lt (n : Int) (w : World) : Calls Try.prog 7 #[.int .i64 n] w fun e w' => ∃ r, e = .returned (.float .f64 r) ∧ Fl.fv .f64 r = fromv n ∧ r < 2 ^ 64 ∧ ∃ k, w' = w.drewN k := by
  have hl : ∀ w x y, Fl.fbits w .quo .f64 x y < 2 ^ 64 := fun w x y => Fl.fbits_lt w .quo .f64 x y
  have HL := Lib.hid hl
  clear hl
  by_cases h1 : -1000000000 ≤ n
  · by_cases h2 : n ≤ 1000000000
    · have HF := Lib.hid (show fromv n = _ from if_pos ⟨h1, h2⟩)
      go_enter Try.func7, Try.ntmps7
      go_wp2
      go_ret
      exact ⟨_, rfl, by rw [HF.out, Fl.fv_fbits], HL.out _ _ _, _, rfl⟩
    · have HF := Lib.hid (show fromv n = _ from if_neg (fun h => h2 h.2))
      go_enter Try.func7, Try.ntmps7
      go_wp2
      go_ret
      exact ⟨_, rfl, by rw [HF.out], by decide, 0, rfl⟩
  · have HF := Lib.hid (show fromv n = _ from if_neg (fun h => h1 h.1))
    go_enter Try.func7, Try.ntmps7
    go_wp2
    go_ret
    exact ⟨_, rfl, by rw [HF.out], by decide, 0, rfl⟩
/-- the number of thousandths that comes back -/
def backv (n : Int) : Int := if -1000000000 ≤ n ∧ n ≤ 1000000000 then n else 0
theorem back_tfx (n : Int) : Fl.tfx (Fl.fop .mul .f64 (fromv n) (Fl.fv .f64 4652007308841189376)) = (backv n, true) := by
  unfold fromv backv
  by_cases h : -1000000000 ≤ n ∧ n ≤ 1000000000
  · rw [if_pos h, if_pos h]
    exact Fl.there_and_back n (by omega)
  · rw [if_neg h, if_neg h, Fl.mul_zero_z]
    exact Fl.tfx_zero
theorem drawFromF (a : Option Addr) (n cap : Nat) (w : World) (hB : By w.heap.size w a n) (hn : n ≤ 1048576) :
    Calls Try.prog 12 #[.slice a n cap] w (NPost w) := by
  have hk := drawFixed a n cap w hB hn
  clear hB
  go_enter Try.func12, Try.ntmps12
  go_wp2_with fail
  refine hk.mono ?_
  rintro e w1 ⟨m, rfl, m0, m1, hb⟩
  clear hk
  go_wp2
  go_ret
  exact ⟨m, rfl, m0, m1, hb⟩
set_option maxRecDepth 100000 in
set_option maxHeartbeats 1000000 in
theorem lawFf_small (a : Option Addr) (n cap : Nat) (w : World) (hB : By w.heap.size w a n) (hn : n ≤ 1048576) :
    Calls Try.prog 5 #[.slice a n cap] w fun e w' => e = .returned (.bool true) ∧ Below w.heap.size w w' := by
  have hk := drawFromF a n cap w hB hn
  have HK := Lib.hid hk
  clear hB hk
  go_enter Try.func5, Try.ntmps5
  go_wp2_with fail
  refine (big_no a n cap w hn).mono ?_
  rintro e w0 ⟨rfl, rfl⟩
  go_wp2_with fail
  refine HK.out.mono ?_
  rintro e w1 ⟨m, rfl, m0, m1, hb⟩
  clear HK
  go_wp2_with fail
  refine (fromI_lt m _).mono ?_
  rintro e w2 ⟨r, rfl, hr, hlt, k, rfl⟩
  have HR := Lib.hid hr
  have HT := Lib.hid (toI_any r hlt)
  clear hr hlt
  go_wp2_with fail
  refine (HT.out _).mono ?_
  rintro e w3 ⟨j, ok, rfl, hj, k', rfl⟩
  rw [HR.out, back_tfx] at hj
  injection hj with e1 e2
  subst e1
  subst e2
  clear HR HT
  by_cases i0 : -1000000000 ≤ m
  · by_cases i1 : m ≤ 1000000000
    · have hbv : backv m = m := if_pos ⟨i0, i1⟩
      rw [hbv]
      clear hbv
      go_wp2
      go_ret
      exact ⟨rfl, by repeat (first | exact hb | refine below_drewN ?_ _)⟩
    · have hbv : backv m = 0 := if_neg (by omega)
      rw [hbv]
      clear hbv
      have i1' : 1000000000 < m := by omega
      clear i1
      go_wp2
      go_ret
      exact ⟨rfl, by repeat (first | exact hb | refine below_drewN ?_ _)⟩
  · have hbv : backv m = 0 := if_neg (by omega)
    rw [hbv]
    clear hbv
    have i0' : m < -1000000000 := by omega
    clear i0
    go_wp2
    go_ret
    exact ⟨rfl, by repeat (first | exact hb | refine below_drewN ?_ _)⟩
set_option maxRecDepth 100000 in
theorem lawFf_big (a : Option Addr) (n cap : Nat) (w : World) (hn : 1048576 < n) :
    Calls Try.prog 5 #[.slice a n cap] w fun e w' => e = .returned (.bool true) ∧ Below w.heap.size w w' := by
  go_enter Try.func5, Try.ntmps5
  go_wp2_with fail
  refine (big_yes a n cap w hn).mono ?_
  rintro e w1 ⟨rfl, rfl⟩
  go_wp2_with fail
  go_ret
  exact ⟨rfl, Below.refl _ _⟩
theorem lawFf (w : World) (a : Option Addr) (n cap : Nat) (_z : Nat) (hB : By w.heap.size w a n) :
    Calls Try.prog 5 #[.slice a n cap] w fun e w' => e = .returned (.bool true) ∧ Below w.heap.size w w' := by
  by_cases h : 1048576 < n
  · exact lawFf_big a n cap w h
  · exact lawFf_small a n cap w hB (by omega)
end Go.Proofs.Ytabiacfangjbeaa
