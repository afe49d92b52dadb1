/- Plain laws: a rounded double against a limit, and as a whole number; when a number is finite. -/
import Derived.Test.YtabiacfangjbeaaRh
namespace Go.Proofs.Ytabiacfangjbeaa.Fl
open Ieee

theorem mag_mono {R R' : Nat} (h : R ≤ R') : mag R ≤ mag R' := by
  obtain ⟨E, hE⟩ : ∃ E, E = R / 2 ^ 52 := ⟨_, rfl⟩
  obtain ⟨F, hF⟩ : ∃ F, F = R % 2 ^ 52 := ⟨_, rfl⟩
  obtain ⟨E', hE'⟩ : ∃ E, E = R' / 2 ^ 52 := ⟨_, rfl⟩
  obtain ⟨F', hF'⟩ : ∃ F, F = R' % 2 ^ 52 := ⟨_, rfl⟩
  have hR : R = E * 2 ^ 52 + F := by omega
  have hR' : R' = E' * 2 ^ 52 + F' := by omega
  have hF2 : F < 2 ^ 52 := by omega
  have hF2' : F' < 2 ^ 52 := by omega
  by_cases he : E = E'
  · by_cases h0 : E = 0
    · unfold mag
      rw [if_pos (by omega), if_pos (by omega)]
      exact h
    · rw [hR, hR', mag_at (by omega) (by omega), mag_at (by omega) (by omega), ← he]
      exact Nat.mul_le_mul_right _ (by omega)
  · have h1 := mag_lt (E := E) (a := E' - 1) hF2 (by omega)
    rw [← hR] at h1
    rw [hR', mag_at (E := E') (by omega) (by omega)]
    exact Nat.le_of_lt (Nat.lt_of_lt_of_le h1 (Nat.mul_le_mul_right _ (by omega)))
theorem sc_inv {s : Bool} {R : Nat} (h : R < 2 ^ 63) {a : Int} (hs : sc double (double.word s R) = some a) : R < 2047 * 2 ^ 52 ∧ a = sg s (mag R) := by
  have hR : R < 2047 * 2 ^ 52 := by
    refine Classical.byContradiction fun hn => ?_
    unfold sc at hs
    rw [read_word double s (by rw [sw_eq]; exact h), bin_eq, inf_eq, if_neg (by omega), if_neg hn] at hs
    split at hs
    · rename_i e; split at e <;> cases e
    · cases hs
  refine ⟨hR, ?_⟩
  rw [sc_word s hR] at hs
  exact (Option.some.inj hs).symm
theorem word_false (R : Nat) : double.word false R = R := rfl
theorem word_mod (s : Bool) {R : Nat} (h : R < 2 ^ 63) : double.word s R % 2 ^ 63 = R := by
  unfold Format.word
  rw [sw_eq]
  split <;> omega
theorem rnd_none {s : Bool} {R : Nat} (h : R < 2 ^ 63) (hs : sc double (double.word s R) = none) :
    rndR R = R ∧ (FloatKind.f64.format.order R 4741671816366391296 == some .lt || FloatKind.f64.format.order R 4741671816366391296 == some .eq) = false := by
  have hR : ¬ R < 2047 * 2 ^ 52 := by
    intro hR
    rw [sc_word s hR] at hs
    cases hs
  refine ⟨by unfold rndR; rw [if_neg (by omega), if_neg (by omega)], ?_⟩
  have e : double.read R = _ := read_word double false (r := R) (by rw [sw_eq]; exact h)
  rw [bin_eq, inf_eq, if_neg (by omega), if_neg hR] at e
  split at e
  · rw [order_inf e sc_e9]; rfl
  · rw [order_nan e]; rfl
theorem rnd_lt {R : Nat} (h : R < 2 ^ 63) : rndR R < 2 ^ 63 := by
  by_cases h1 : R / 2 ^ 52 < 1075
  · have := (mag_rnd h1).2; omega
  · unfold rndR; rw [if_neg (by omega), if_neg h1]; exact h
theorem leq_e9 {b : Nat} {v : Nat} (h : sc double b = some (v : Int)) : (FloatKind.f64.format.order b 4741671816366391296 == some .lt || FloatKind.f64.format.order b 4741671816366391296 == some .eq) = decide (v ≤ 1000000000 * un) := by
  have o1 : FloatKind.f64.format.order b 4741671816366391296 = _ := order_sc (f := double) h sc_e9
  rw [o1, Bool.eq_iff_iff]
  simp only [Bool.or_eq_true, beq_iff_eq, Option.some.injEq, Int.compare_eq_lt, Int.compare_eq_eq, decide_eq_true_eq]
  omega
theorem sgz {s : Bool} {v : Nat} : sg s v = if sg s v < 0 then -(v : Int) else v := by
  unfold sg
  cases s <;> simp <;> omega
/-- THE ROUNDED NUMBER: at most the limit or not; and the whole number that it is -/
theorem rnd_some {s : Bool} {R : Nat} (h : R < 2 ^ 63) {a : Int} (hs : sc double (double.word s R) = some a) :
    (FloatKind.f64.format.order (rndR R) 4741671816366391296 == some .lt || FloatKind.f64.format.order (rndR R) 4741671816366391296 == some .eq) = decide (tfr a ≤ 1000000000) ∧
    (tfr a ≤ 1000000000 → floatToIntVal .f64 (double.word s (rndR R)) .i64 = some (if a < 0 then -(tfr a : Int) else tfr a)) := by
  obtain ⟨hR, rfl⟩ := sc_inv h hs
  have hup := un_pos
  have hun := un_hf
  have hT : tfr (sg s (mag R)) = (mag R + hf) / un := by unfold tfr; rw [sg_natAbs]
  by_cases h1 : R / 2 ^ 52 < 1075
  · obtain ⟨m1, m2⟩ := mag_rnd h1
    have hv : sc double (rndR R) = some (((mag R + hf) / un * un : Nat) : Int) := by
      have := sc_word false m2
      rw [word_false, m1] at this
      rw [this]; rfl
    rw [hT]
    refine ⟨?_, fun hle => ?_⟩
    · rw [leq_e9 hv, decide_eq_decide]
      exact Nat.mul_le_mul_right_iff hup
    · have hw := sc_word s m2
      rw [m1] at hw
      obtain ⟨t, e1, e2⟩ := intVal hw (by rw [sg_natAbs, Nat.mul_div_cancel _ hup]; omega)
      rw [e2, sg_natAbs, Nat.mul_div_cancel _ hup]
      rw [sg_natAbs] at e1
      congr 1
      generalize hQ : (mag R + hf) / un = Q at *
      by_cases hQ0 : Q = 0
      · subst hQ0
        unfold sg
        simp
      · have hM : mag R ≠ 0 := by
          intro h0
          rw [h0, Nat.zero_add, Nat.div_eq_of_lt (by have := hf_pos; omega)] at hQ
          exact hQ0 hQ.symm
        have hpos : 0 < Q * un := Nat.mul_pos (by omega) hup
        generalize Q * un = X at *
        unfold sg at e1 ⊢
        cases s <;> cases t <;> simp at e1 ⊢ <;> omega
  · have hr : rndR R = R := by unfold rndR; rw [if_neg (by omega), if_neg h1]
    have hbig : 2 ^ 52 * un ≤ mag R := by
      obtain ⟨E, hE⟩ : ∃ E, E = R / 2 ^ 52 := ⟨_, rfl⟩
      obtain ⟨F, hF⟩ : ∃ F, F = R % 2 ^ 52 := ⟨_, rfl⟩
      have hRR : R = E * 2 ^ 52 + F := by omega
      obtain ⟨A, hA⟩ : ∃ A, A = 1074 := ⟨_, rfl⟩
      rw [hRR, mag_at (by omega) (by omega), un_pow hA]
      exact Nat.mul_le_mul (by omega) (Nat.pow_le_pow_right (by omega) (by omega))
    have hv : sc double R = some ((mag R : Nat) : Int) := by
      have := sc_word false hR
      rw [word_false] at this
      rw [this]; rfl
    have hno : ¬ tfr (sg s (mag R)) ≤ 1000000000 := by
      rw [hT]
      have : 2 ^ 52 ≤ (mag R + hf) / un := (Nat.le_div_iff_mul_le hup).2 (by omega)
      omega
    rw [hr]
    refine ⟨?_, fun h => absurd h hno⟩
    rw [leq_e9 hv, decide_eq_false hno, decide_eq_false_iff_not]
    omega

/-! ### a finite number -/
def fin (x : Nat) : Bool := !(FloatKind.f64.format.order x x != some .eq) && !(FloatKind.f64.format.order (x % 2 ^ 63) 9218868437227405311 == some .gt)
theorem fin_some {x : Nat} (hx : x < 2 ^ 64) {a : Int} (h : sc double x = some a) : fin x = true := by
  obtain ⟨s, R, rfl, hR⟩ := word_of hx
  obtain ⟨hR2, _⟩ := sc_inv hR h
  have o1 : FloatKind.f64.format.order (double.word s R) (double.word s R) = _ := order_sc (f := double) h h
  have hv : sc double R = some ((mag R : Nat) : Int) := by
    have := sc_word false hR2
    rw [word_false] at this
    rw [this]; rfl
  have hm : sc double (2047 * 2 ^ 52 - 1) = some ((mag (2047 * 2 ^ 52 - 1) : Nat) : Int) := sc_word false (R := 2047 * 2 ^ 52 - 1) (by omega)
  have hle : mag R ≤ mag (2047 * 2 ^ 52 - 1) := mag_mono (by omega)
  have o2 : FloatKind.f64.format.order R 9218868437227405311 = _ := order_sc (f := double) hv hm
  unfold fin
  rw [o1, word_mod s hR, o2]
  generalize mag (2047 * 2 ^ 52 - 1) = M at *
  have e1 : (some (compare (mag R : Int) (M : Int)) == some Ordering.gt) = false := by
    rw [← Bool.not_eq_true]
    simp only [beq_iff_eq, Option.some.injEq, Int.compare_eq_gt]
    omega
  rw [e1]
  simp
/-- a product that is a number is of numbers -/
theorem mul_num {x c : Nat} {o : Option Nat} (h : fop .mul .f64 (fv .f64 x) (fv .f64 c) = o) {a v : Int} (hc : sc double c = some v) (hv : v ≠ 0) (ho : o.bind (sc double) = some a) : ∃ b, sc double x = some b := by
  cases hx : sc double x with
  | some b => exact ⟨b, rfl⟩
  | none =>
    exfalso
    rcases not_num hx with ⟨s, e⟩ | ⟨s, t, e⟩
    · have e1 : fv .f64 x = some x := fv_some.2 ⟨by show (double.read x).isNaN = false; rw [e]; rfl, rfl⟩
      obtain ⟨t, m, p, ec, _, hcv⟩ := sc_read hc
      have e2 : fv .f64 c = some c := fv_some.2 ⟨by show (double.read c).isNaN = false; rw [ec]; rfl, rfl⟩
      have hm : m ≠ 0 := by
        intro h0
        subst h0
        apply hv
        rw [hcv]
        unfold unitsOf sg
        simp
      have e3 : fop .mul .f64 (some x) (some c) = some (double.write (.infinity (s ^^ t))) := by
        show double.mul x c = _
        unfold Format.mul
        rw [e, ec]
        simp [Datum.product, hm]
      rw [e1, e2, e3] at h
      subst h
      have e4 : sc double (double.write (.infinity (s ^^ t))) = none := by cases s <;> cases t <;> decide +kernel
      rw [show (some (double.write (.infinity (s ^^ t)))).bind (sc double) = sc double (double.write (.infinity (s ^^ t))) from rfl, e4] at ho
      cases ho
    · have e1 : fv .f64 x = none := fv_none.2 (by show (double.read x).isNaN = true; rw [e]; rfl)
      rw [e1] at h
      subst h
      cases ho
end Go.Proofs.Ytabiacfangjbeaa.Fl
