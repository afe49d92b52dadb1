/- Walk: the reference's ToFixed at every number; the law FnExactToFixed returns true. -/
import Derived.Test.YtabiacfangjbeaaRj
namespace Go.Proofs.Ytabiacfangjbeaa
open Go.RowKit

theorem fb_some {op : BinOp} {k : FloatKind} {x y r : Nat} (h : floatBits op k x y = some r) (w : World) : Fl.fbits w op k x y = r := by
  unfold Fl.fbits
  rw [h]; rfl
theorem geq_half {f : Nat} {v : Int} (h : Fl.sc Ieee.double f = some v) : (FloatKind.f64.format.order f 4602678819172646912 == some .gt || FloatKind.f64.format.order f 4602678819172646912 == some .eq) = decide ((Fl.hf : Int) ≤ v) := by
  have o1 : FloatKind.f64.format.order f 4602678819172646912 = _ := Fl.order_sc (f := Ieee.double) h Fl.sc_phalf
  rw [o1, Bool.eq_iff_iff]
  simp only [Bool.or_eq_true, beq_iff_eq, Option.some.injEq, Int.compare_eq_gt, Int.compare_eq_eq, decide_eq_true_eq]
  omega
theorem leq_half {f : Nat} {v : Int} (h : Fl.sc Ieee.double f = some v) : (FloatKind.f64.format.order f 13826050856027422720 == some .lt || FloatKind.f64.format.order f 13826050856027422720 == some .eq) = decide (v ≤ -(Fl.hf : Int)) := by
  have o1 : FloatKind.f64.format.order f 13826050856027422720 = _ := Fl.order_sc (f := Ieee.double) h Fl.sc_mhalf
  rw [o1, Bool.eq_iff_iff]
  simp only [Bool.or_eq_true, beq_iff_eq, Option.some.injEq, Int.compare_eq_lt, Int.compare_eq_eq, decide_eq_true_eq]
  omega
theorem toS_any (x : Nat) (w : World) : Calls Try.prog 9 #[.float .f64 x] w (TfPost x w) := by
  have hp := Fl.fv_fbits w .mul .f64 x 4652007308841189376
  obtain ⟨p, he⟩ : ∃ p, Fl.fbits w .mul .f64 x 4652007308841189376 = p := ⟨_, rfl⟩
  rw [he] at hp
  have hb := Fl.fv_bind hp
  cases hs : Fl.sc Ieee.double p with
  | none =>
    rw [hs] at hb
    refine (toS_no x p w he (Fl.spec_out hs)).mono ?_
    rintro e w' ⟨rfl, n, rfl⟩
    exact ⟨0, false, rfl, (Fl.tfx_none hb).symm, n, rfl⟩
  | some a =>
    rw [hs] at hb
    by_cases hle : Fl.tfr a ≤ 1000000000
    · have hq : a.natAbs / Fl.un ≤ 1000000000 := Nat.le_trans (Nat.div_le_div_right (by omega)) hle
      obtain ⟨h1, h2⟩ := Fl.spec_in hs hle
      obtain ⟨s, e1, e2⟩ := Fl.intVal hs (by omega)
      obtain ⟨f, f1, f2⟩ := Fl.frac hs e1 (by omega)
      have hbd : -1000000000 ≤ Fl.sg s (a.natAbs / Fl.un) ∧ Fl.sg s (a.natAbs / Fl.un) ≤ 1000000000 := by
        revert hq
        generalize a.natAbs / Fl.un = Q
        intro hq
        unfold Fl.sg
        split <;> omega
      refine (toS_yes x p f _ _ _ w he h1 h2 e2 (fb_some f1) (geq_half f2) (leq_half f2) hbd).mono ?_
      rintro e w' ⟨rfl, n, rfl⟩
      refine ⟨_, true, rfl, ?_, n, rfl⟩
      rw [Fl.tfx_some hb hle, ← Fl.spec_res e1]
      simp only [decide_eq_true_eq]
    · refine (toS_no x p w he (Fl.spec_big hs hle)).mono ?_
      rintro e w' ⟨rfl, n, rfl⟩
      exact ⟨0, false, rfl, (Fl.tfx_big hb hle).symm, n, rfl⟩
set_option maxRecDepth 100000 in
set_option maxHeartbeats 1000000 in
theorem lawToFixed (w : World) (x : Nat) (hx : (Lit.float .f64 x).wf = true) : Calls Try.prog 4 #[.float .f64 x] w fun e w' => e = .returned (.bool true) ∧ Below w.heap.size w w' := by
  have hlt : x < 2 ^ 64 := by simpa [Lit.wf] using hx
  have hI := toI_any x hlt
  have HI := Lib.hid hI
  clear hx hlt hI
  go_enter Try.func4, Try.ntmps4
  go_wp2_with fail
  refine (toS_any x _).mono ?_
  rintro e w' ⟨k, ok, rfl, hk, n, rfl⟩
  have HK := Lib.hid hk
  clear hk
  go_wp2_with fail
  refine (HI.out _).mono ?_
  rintro e w' ⟨k', ok', rfl, hk', n', rfl⟩
  have he := hk'.trans HK.out.symm
  injection he with e1 e2
  subst e1
  subst e2
  clear hk' HK
  go_wp2
  go_ret
  exact ⟨rfl, by repeat (first | exact Below.refl _ _ | refine below_drewN ?_ _)⟩
end Go.Proofs.Ytabiacfangjbeaa
