/- Walks: ToFixed, the program's and the reference's. -/
import Derived.Test.YtabiacfangjbeaaRg
import Derived.Test.YtabiacfangjbeaaRi
import Derived.Test.YtabiacfangjbeaaSf
import Derived.Lib.Hide
namespace Go.Proofs.Ytabiacfangjbeaa
open Go.RowKit

/-- ToFixed's answer -/
def TfPost (x : Nat) (w : World) (e : Ending) (w' : World) : Prop :=
  ∃ (k : Int) (ok : Bool), e = .returned (.tuple #[.int .i64 k, .bool ok]) ∧ (k, ok) = Fl.tfx (Fl.fop .mul .f64 (Fl.fv .f64 x) (Fl.fv .f64 4652007308841189376)) ∧ ∃ n, w' = w.drewN n
theorem sc_thousand : Fl.sc Ieee.double 4652007308841189376 = some (1000 * (Fl.un : Int)) := by decide +kernel
theorem thousand_ne : (1000 * (Fl.un : Int)) ≠ 0 := by have := Fl.un_pos; omega
theorem cv_int {q : Nat} {k : Int} (h : floatToIntVal .f64 q .i64 = some k) (w : World) : (convert 22 3 (.float .f64 q)).run Try.prog w = .ok (.int .i64 k) w :=
  run_convert_float_int w 22 3 .f64 .i64 q k (by rw [Try.underlying22]; rfl) Try.underlying3 h
theorem finite_fin (x : Nat) (hx : x < 2 ^ 64) (w : World) : Calls Try.prog 16 #[.float .f64 x] w fun e w' => e = .returned (.bool (Fl.fin x)) ∧ w = w' := finite_any x hx w
theorem round_word (s : Bool) {R : Nat} (hR : R < 2 ^ 63) (w : World) :
    Calls Try.prog 15 #[.float .f64 (Ieee.double.word s R)] w fun e w' => e = .returned (.float .f64 (Ieee.double.word s (Fl.rndR R))) ∧ w = w' := by
  have h := round_any (Ieee.double.word s R) w
  rw [Fl.rndB_word s hR, Int.toNat_natCast] at h
  exact h
theorem abs_word (s : Bool) {R : Nat} (hR : R < 2 ^ 63) (w : World) :
    Calls Try.prog 17 #[.float .f64 (Ieee.double.word s R)] w fun e w' => e = .returned (.float .f64 R) ∧ w = w' := by
  have h := abs_any (Ieee.double.word s R) (by unfold Ieee.Format.word; have := Fl.sw_eq; split <;> omega) w
  rw [Fl.word_mod s hR] at h
  exact h
set_option maxRecDepth 100000 in
set_option maxHeartbeats 1000000 in
theorem toI_no (x p q m : Nat) (w : World) (hp : Fl.fbits w .mul .f64 x 4652007308841189376 = p) (hfin : ∀ w : World, Calls Try.prog 16 #[.float .f64 x] w fun e w' => e = .returned (.bool (Fl.fin x)) ∧ w = w')
    (hround : ∀ w : World, Calls Try.prog 15 #[.float .f64 p] w fun e w' => e = .returned (.float .f64 q) ∧ w = w') (habs : ∀ w : World, Calls Try.prog 17 #[.float .f64 q] w fun e w' => e = .returned (.float .f64 m) ∧ w = w')
    (hc : (FloatKind.f64.format.order m 4741671816366391296 == some .lt || FloatKind.f64.format.order m 4741671816366391296 == some .eq) = false) :
    Calls Try.prog 10 #[.float .f64 x] w fun e w' => e = .returned (.tuple #[.int .i64 0, .bool false]) ∧ ∃ n, w' = w.drewN n := by
  have HF := Lib.hid hfin
  have HR := Lib.hid hround
  have HA := Lib.hid habs
  clear hfin hround habs
  cases hfx : Fl.fin x
  · go_enter Try.func10, Try.ntmps10
    go_wp2_with fail
    refine (HR.out _).mono ?_
    rintro e w' ⟨rfl, rfl⟩
    go_wp2_with fail
    refine (HF.out _).mono ?_
    rintro e w' ⟨rfl, rfl⟩
    rw [hfx]
    go_wp2
    go_ret2
    exact ⟨rfl, _, rfl⟩
  · go_enter Try.func10, Try.ntmps10
    go_wp2_with fail
    refine (HR.out _).mono ?_
    rintro e w' ⟨rfl, rfl⟩
    go_wp2_with fail
    refine (HF.out _).mono ?_
    rintro e w' ⟨rfl, rfl⟩
    rw [hfx]
    go_wp2_with fail
    refine (HA.out _).mono ?_
    rintro e w' ⟨rfl, rfl⟩
    go_wp2
    go_ret2
    exact ⟨rfl, _, rfl⟩
set_option maxRecDepth 100000 in
set_option maxHeartbeats 1000000 in
theorem toI_yes (x p q m : Nat) (k : Int) (w : World) (hp : Fl.fbits w .mul .f64 x 4652007308841189376 = p) (hfin : ∀ w : World, Calls Try.prog 16 #[.float .f64 x] w fun e w' => e = .returned (.bool (Fl.fin x)) ∧ w = w')
    (hround : ∀ w : World, Calls Try.prog 15 #[.float .f64 p] w fun e w' => e = .returned (.float .f64 q) ∧ w = w') (habs : ∀ w : World, Calls Try.prog 17 #[.float .f64 q] w fun e w' => e = .returned (.float .f64 m) ∧ w = w')
    (hc : (FloatKind.f64.format.order m 4741671816366391296 == some .lt || FloatKind.f64.format.order m 4741671816366391296 == some .eq) = true) (hfx : Fl.fin x = true) (hk : floatToIntVal .f64 q .i64 = some k) :
    Calls Try.prog 10 #[.float .f64 x] w fun e w' => e = .returned (.tuple #[.int .i64 k, .bool true]) ∧ ∃ n, w' = w.drewN n := by
  have HF := Lib.hid hfin
  have HR := Lib.hid hround
  have HA := Lib.hid habs
  have hcv := cv_int hk
  clear hfin hround habs hk
  go_enter Try.func10, Try.ntmps10
  go_wp2_with fail
  refine (HR.out _).mono ?_
  rintro e w' ⟨rfl, rfl⟩
  go_wp2_with fail
  refine (HF.out _).mono ?_
  rintro e w' ⟨rfl, rfl⟩
  rw [hfx]
  go_wp2_with fail
  refine (HA.out _).mono ?_
  rintro e w' ⟨rfl, rfl⟩
  go_wp2
  go_ret2
  exact ⟨rfl, _, rfl⟩
theorem toI_any (x : Nat) (hx : x < 2 ^ 64) (w : World) : Calls Try.prog 10 #[.float .f64 x] w (TfPost x w) := by
  have hp := Fl.fv_fbits w .mul .f64 x 4652007308841189376
  have hlt : Fl.fbits w .mul .f64 x 4652007308841189376 < 2 ^ 64 := Fl.fbits_lt w .mul .f64 x 4652007308841189376
  obtain ⟨s, R, he, hR⟩ := Fl.word_of hlt
  rw [he] at hp
  have hb := Fl.fv_bind hp
  cases hs : Fl.sc Ieee.double (Ieee.double.word s R) with
  | none =>
    rw [hs] at hb
    obtain ⟨h1, h2⟩ := Fl.rnd_none hR hs
    refine (toI_no x _ _ _ w he (finite_fin x hx) (round_word s hR) (abs_word s (Fl.rnd_lt hR)) (by rw [h1]; exact h2)).mono ?_
    rintro e w' ⟨rfl, n, rfl⟩
    exact ⟨0, false, rfl, (Fl.tfx_none hb).symm, n, rfl⟩
  | some a =>
    rw [hs] at hb
    obtain ⟨h1, h2⟩ := Fl.rnd_some hR hs
    by_cases hle : Fl.tfr a ≤ 1000000000
    · rw [decide_eq_true hle] at h1
      obtain ⟨b, hxb⟩ := Fl.mul_num rfl sc_thousand thousand_ne hb
      refine (toI_yes x _ _ _ _ w he (finite_fin x hx) (round_word s hR) (abs_word s (Fl.rnd_lt hR)) h1 (Fl.fin_some hx hxb) (h2 hle)).mono ?_
      rintro e w' ⟨rfl, n, rfl⟩
      exact ⟨_, true, rfl, (Fl.tfx_some hb hle).symm, n, rfl⟩
    · rw [decide_eq_false hle] at h1
      refine (toI_no x _ _ _ w he (finite_fin x hx) (round_word s hR) (abs_word s (Fl.rnd_lt hR)) h1).mono ?_
      rintro e w' ⟨rfl, n, rfl⟩
      exact ⟨0, false, rfl, (Fl.tfx_big hb hle).symm, n, rfl⟩
set_option maxRecDepth 100000 in
set_option maxHeartbeats 1000000 in
theorem toS_no (x p : Nat) (w : World) (hp : Fl.fbits w .mul .f64 x 4652007308841189376 = p)
    (hc : (FloatKind.f64.format.order p 13965043853225361408 == some .gt) = false ∨ (FloatKind.f64.format.order p 4741671816370585600 == some .lt) = false) :
    Calls Try.prog 9 #[.float .f64 x] w fun e w' => e = .returned (.tuple #[.int .i64 0, .bool false]) ∧ ∃ n, w' = w.drewN n := by
  cases h1 : (FloatKind.f64.format.order p 13965043853225361408 == some .gt)
  · clear hc
    go_enter Try.func9, Try.ntmps9
    go_wp2
    go_ret2
    exact ⟨rfl, _, rfl⟩
  · have h2 : (FloatKind.f64.format.order p 4741671816370585600 == some .lt) = false := by
      rcases hc with h | h
      · rw [h] at h1; cases h1
      · exact h
    clear hc
    go_enter Try.func9, Try.ntmps9
    go_wp2
    go_ret2
    exact ⟨rfl, _, rfl⟩
set_option maxRecDepth 100000 in
set_option maxHeartbeats 1000000 in
theorem toS_yes (x p f : Nat) (n : Int) (h b : Bool) (w : World) (hp : Fl.fbits w .mul .f64 x 4652007308841189376 = p)
    (h1 : (FloatKind.f64.format.order p 13965043853225361408 == some .gt) = true) (h2 : (FloatKind.f64.format.order p 4741671816370585600 == some .lt) = true)
    (hn : floatToIntVal .f64 p .i64 = some n) (hf : ∀ w, Fl.fbits w .sub .f64 p (floatOfInt .f64 n) = f)
    (h3 : (FloatKind.f64.format.order f 4602678819172646912 == some .gt || FloatKind.f64.format.order f 4602678819172646912 == some .eq) = h)
    (h4 : (FloatKind.f64.format.order f 13826050856027422720 == some .lt || FloatKind.f64.format.order f 13826050856027422720 == some .eq) = b) (hs : -1000000000 ≤ n ∧ n ≤ 1000000000) :
    Calls Try.prog 9 #[.float .f64 x] w fun e w' => e = .returned (.tuple #[.int .i64 (n + (if h then 1 else 0) - (if b then 1 else 0)), .bool true]) ∧ ∃ k, w' = w.drewN k := by
  have hcv := cv_int hn
  clear hn
  cases h <;> cases b
  all_goals
    go_enter Try.func9, Try.ntmps9
    go_wp2
    go_ret2
    exact ⟨by simp, _, rfl⟩
end Go.Proofs.Ytabiacfangjbeaa
