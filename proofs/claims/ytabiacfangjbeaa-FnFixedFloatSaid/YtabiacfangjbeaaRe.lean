/- Plain laws: what ToFixed answers of a double, rounded by its bits, and cut off with its fraction looked at. -/
import Derived.Test.YtabiacfangjbeaaRd
namespace Go.Proofs.Ytabiacfangjbeaa.Fl
open Ieee

theorem cut_zero (s : Bool) (n d : Nat) : Toward.zero.cut s n d = n / 2 ^ d := by
  unfold Toward.cut
  dsimp only
  rw [Bool.toNat_false, Nat.add_zero, Nat.shiftLeft_eq, Nat.one_mul]
  rcases Nat.le_total d (n.log2 + 2) with h | h
  · rw [Nat.min_eq_left h]
  · rw [Nat.min_eq_right h]
    have h1 : n < 2 ^ (n.log2 + 1) := Nat.lt_log2_self
    have h2 : 2 ^ (n.log2 + 1) ≤ 2 ^ (n.log2 + 2) := Nat.pow_le_pow_right (by omega) (by omega)
    have h3 : 2 ^ (n.log2 + 1) ≤ 2 ^ d := Nat.pow_le_pow_right (by omega) (by omega)
    rw [Nat.div_eq_of_lt (by omega), Nat.div_eq_of_lt (by omega)]
theorem toInt_of {b : Nat} {s : Bool} {m : Nat} {p : Int} (h : double.read b = .number s m p) (hp : -1074 ≤ p) : (double.read b).toInt .zero = some (sg s (unitsOf double m p / un)) := by
  have e : Toward.zero.cut s (m <<< p.toNat) (-p).toNat = unitsOf double m p / un := by
    rw [cut_zero, Nat.shiftLeft_eq]
    unfold unitsOf
    rw [double_place]
    rcases Int.le_total 0 p with h0 | h0
    · have e1 : (-p).toNat = 0 := by omega
      obtain ⟨A, hA⟩ : ∃ A, A = 1074 := ⟨_, rfl⟩
      have e2 : (p - -1074).toNat = p.toNat + A := by omega
      rw [e1, e2, Nat.pow_add, ← Nat.mul_assoc, Nat.pow_zero, Nat.div_one, ← un_pow hA]
      exact (Nat.mul_div_cancel _ un_pos).symm
    · have e1 : p.toNat = 0 := by omega
      rw [e1, Nat.pow_zero, Nat.mul_one, ← un_split (a := (-p).toNat) (b := (p - -1074).toNat) (by omega), Nat.mul_div_mul_right _ _ (Nat.two_pow_pos _)]
  rw [h]
  show some (signed s (Toward.zero.cut s (m <<< p.toNat) (-p).toNat) 0) = _
  rw [e]
  unfold signed sg
  simp
theorem sg_lt {s : Bool} {v : Nat} (h : v ≤ 4611686018427387904) : IntKind.i64.min ≤ sg s v ∧ sg s v ≤ IntKind.i64.max := by
  have e1 : IntKind.i64.min = -9223372036854775808 := by decide
  have e2 : IntKind.i64.max = 9223372036854775807 := by decide
  rw [e1, e2]
  unfold sg
  split <;> omega
theorem sc_val {b : Nat} {a : Int} (h : sc double b = some a) : ∃ s, a = sg s a.natAbs ∧ (double.read b).toInt .zero = some (sg s (a.natAbs / un)) := by
  obtain ⟨s, m, p, e, hp, rfl⟩ := sc_read h
  rw [double_place] at hp
  rw [sg_natAbs]
  exact ⟨s, rfl, toInt_of e hp⟩
theorem intVal {b : Nat} {a : Int} (h : sc double b = some a) (ha : a.natAbs / un ≤ 4611686018427387904) : ∃ s, a = sg s a.natAbs ∧ floatToIntVal .f64 b .i64 = some (sg s (a.natAbs / un)) := by
  obtain ⟨s, hs, e⟩ := sc_val h
  refine ⟨s, hs, ?_⟩
  unfold floatToIntVal
  have e' : (FloatKind.f64.decode b).toInt .zero = some (sg s (a.natAbs / un)) := e
  rw [e']
  simp only
  rw [if_pos (sg_lt ha)]

/-- WHAT ToFixed ANSWERS of a number (a thousand times what it is handed) -/
def tfr (a : Int) : Nat := (a.natAbs + hf) / un
def tfx (o : Option Nat) : Int × Bool :=
  match o.bind (sc double) with
  | none => (0, false)
  | some a => if tfr a ≤ 1000000000 then (if a < 0 then -(tfr a : Int) else tfr a, true) else (0, false)
theorem tfx_none {o : Option Nat} (h : o.bind (sc double) = none) : tfx o = (0, false) := by unfold tfx; rw [h]
theorem tfx_big {o : Option Nat} {a : Int} (h : o.bind (sc double) = some a) (h1 : ¬ tfr a ≤ 1000000000) : tfx o = (0, false) := by unfold tfx; rw [h]; simp only; rw [if_neg h1]
theorem tfx_some {o : Option Nat} {a : Int} (h : o.bind (sc double) = some a) (h1 : tfr a ≤ 1000000000) : tfx o = (if a < 0 then -(tfr a : Int) else tfr a, true) := by unfold tfx; rw [h]; simp only; rw [if_pos h1]

theorem fv_bind {b : Nat} {o : Option Nat} (h : fv .f64 b = o) : o.bind (sc double) = sc double b := by
  subst h
  unfold fv
  split
  · rename_i h
    unfold sc
    change (double.read b).isNaN = true at h
    cases hd : double.read b with
    | number s m p => rw [hd] at h; cases h
    | infinity s => rfl
    | nan s t => rfl
  · rfl

/-! ### constants -/
theorem sc_phalf : sc double 4602678819172646912 = some (hf : Int) := by decide +kernel
theorem sc_mhalf : sc double 13826050856027422720 = some (-(hf : Int)) := by decide +kernel
theorem sc_e9 : sc double 4741671816366391296 = some (1000000000 * (un : Int)) := by decide +kernel
theorem sc_pe9 : sc double 4741671816370585600 = some (2000000001 * (hf : Int)) := by decide +kernel
theorem sc_me9 : sc double 13965043853225361408 = some (-(2000000001 * (hf : Int))) := by decide +kernel

/-! ### the reference's way -/
theorem not_num {b : Nat} (h : sc double b = none) : (∃ s, double.read b = .infinity s) ∨ (∃ s t, double.read b = .nan s t) := by
  unfold sc at h
  cases hd : double.read b with
  | number s m p => rw [hd] at h; cases h
  | infinity s => exact .inl ⟨s, rfl⟩
  | nan s t => exact .inr ⟨s, t, rfl⟩
theorem order_inf {b c : Nat} {s : Bool} {a : Int} (hb : double.read b = .infinity s) (hc : sc double c = some a) : FloatKind.f64.format.order b c = some (if s then .lt else .gt) := by
  obtain ⟨t, m, p, e, _, _⟩ := sc_read hc
  show (double.read b).order (double.read c) = _
  rw [hb, e]; rfl
theorem order_nan {b c : Nat} {s : Bool} {t : Nat} (hb : double.read b = .nan s t) : FloatKind.f64.format.order b c = none := by
  show (double.read b).order (double.read c) = _
  rw [hb]; cases double.read c <;> rfl
theorem spec_out {b : Nat} (h : sc double b = none) : (FloatKind.f64.format.order b 13965043853225361408 == some .gt) = false ∨ (FloatKind.f64.format.order b 4741671816370585600 == some .lt) = false := by
  rcases not_num h with ⟨s, e⟩ | ⟨s, t, e⟩
  · cases s
    · right; rw [order_inf e sc_pe9]; rfl
    · left; rw [order_inf e sc_me9]; rfl
  · left; rw [order_nan e]; rfl
theorem tfr_le {a : Int} : tfr a ≤ 1000000000 ↔ -(2000000001 * (hf : Int)) < a ∧ a < 2000000001 * (hf : Int) := by
  have h1 := un_hf
  have h2 := un_pos
  unfold tfr
  have : (a.natAbs + hf) / un ≤ 1000000000 ↔ a.natAbs + hf < 1000000001 * un := by
    rw [← Nat.lt_succ_iff, Nat.div_lt_iff_lt_mul h2]
  rw [this]
  omega
theorem spec_in {b : Nat} {a : Int} (h : sc double b = some a) (h1 : tfr a ≤ 1000000000) : (FloatKind.f64.format.order b 13965043853225361408 == some .gt) = true ∧ (FloatKind.f64.format.order b 4741671816370585600 == some .lt) = true := by
  have o1 : FloatKind.f64.format.order b 13965043853225361408 = _ := order_sc (f := double) h sc_me9
  have o2 : FloatKind.f64.format.order b 4741671816370585600 = _ := order_sc (f := double) h sc_pe9
  rw [o1, o2]
  simp only [beq_iff_eq, Option.some.injEq, Int.compare_eq_gt, Int.compare_eq_lt]
  exact tfr_le.1 h1
theorem spec_big {b : Nat} {a : Int} (h : sc double b = some a) (h1 : ¬ tfr a ≤ 1000000000) : (FloatKind.f64.format.order b 13965043853225361408 == some .gt) = false ∨ (FloatKind.f64.format.order b 4741671816370585600 == some .lt) = false := by
  have o1 : FloatKind.f64.format.order b 13965043853225361408 = _ := order_sc (f := double) h sc_me9
  have o2 : FloatKind.f64.format.order b 4741671816370585600 = _ := order_sc (f := double) h sc_pe9
  rw [o1, o2, ← Bool.not_eq_true, ← Bool.not_eq_true]
  simp only [beq_iff_eq, Option.some.injEq, Int.compare_eq_gt, Int.compare_eq_lt]
  rw [tfr_le] at h1
  omega
theorem rep_mod {V : Nat} (h : Rep double V) : Rep double (V % un) := by
  obtain ⟨q, j, rfl, hq, hj⟩ := h
  rcases Nat.le_total 1074 j with h | h
  · have : q * 2 ^ j % un = 0 := by
      have e : q * 2 ^ j = q * 2 ^ (j - 1074) * un := by
        rw [Nat.mul_assoc]; congr 1
        obtain ⟨A, hA⟩ : ∃ A, A = 1074 := ⟨_, rfl⟩
        rw [un_pow hA, ← Nat.pow_add]
        exact pow_eq (by omega)
      rw [e]; exact Nat.mul_mod_left _ _
    rw [this]
    exact ⟨0, 0, by simp, Nat.two_pow_pos _, Nat.zero_le _⟩
  · have e : q * 2 ^ j % un = (q % 2 ^ (1074 - j)) * 2 ^ j := by
      rw [← un_split (a := 1074 - j) (b := j) (by omega), Nat.mul_mod_mul_right]
    rw [e]
    exact ⟨_, j, rfl, Nat.lt_of_le_of_lt (Nat.mod_le _ _) hq, hj⟩
theorem sg_div {s : Bool} {V : Nat} : sg s V - sg s (V / un) * (un : Int) = sg s (V % un) := by
  have h : V = un * (V / un) + V % un := (Nat.div_add_mod V un).symm
  have h2 : ((V / un : Nat) : Int) * (un : Int) = ((un * (V / un) : Nat) : Int) := by rw [Nat.mul_comm]; exact (Int.natCast_mul _ _).symm
  unfold sg
  generalize un * (V / un) = X at *
  cases s
  · simp only [Bool.false_eq_true, if_false]; rw [h2]; omega
  · simp only [if_true]; rw [Int.neg_mul, h2]; omega
theorem frac {b : Nat} {a : Int} (h : sc double b = some a) {s : Bool} (hs : a = sg s a.natAbs) (ha : a.natAbs / un < 9007199254740992) :
    ∃ r, floatBits .sub .f64 b (floatOfInt .f64 (sg s (a.natAbs / un))) = some r ∧ sc double r = some (sg s (a.natAbs % un)) := by
  have h1 : sc double (floatOfInt .f64 (sg s (a.natAbs / un))) = some (sg s (a.natAbs / un) * (un : Int)) := by
    obtain ⟨A, hA⟩ : ∃ A, A = 1074 := ⟨_, rfl⟩
    rw [un_pow hA]
    exact sc_int _ (by rw [sg_natAbs, ← un_pow hA]; exact ha) A hA
  have hr := sc_rep (by decide) h
  have e : a - sg s (a.natAbs / un) * (un : Int) = sg s (a.natAbs % un) := by conv => lhs; lhs; rw [hs]
                                                                              exact sg_div
  obtain ⟨r, e1, e2⟩ := sub_exact (f := double) (by decide) h h1 (by rw [e, sg_natAbs]; exact rep_mod hr)
  exact ⟨r, e1, by rw [e2, e]⟩
/-- the reference's answer: cut off, and one more where a half is left -/
theorem spec_res {a : Int} {s : Bool} (hs : a = sg s a.natAbs) :
    sg s (a.natAbs / un) + (if (hf : Int) ≤ sg s (a.natAbs % un) then 1 else 0) - (if sg s (a.natAbs % un) ≤ -(hf : Int) then 1 else 0) = if a < 0 then -(tfr a : Int) else tfr a := by
  have h1 := un_hf
  have h2 := hf_pos
  have hd := Nat.div_add_mod a.natAbs un
  have hm := Nat.mod_lt a.natAbs un_pos
  have hr : tfr a = a.natAbs / un + (if hf ≤ a.natAbs % un then 1 else 0) := by
    unfold tfr
    conv => lhs; rw [← hd]
    rw [Nat.add_assoc, Nat.mul_add_div un_pos]
    congr 1
    split
    · exact Nat.div_eq_of_lt_le (by omega) (by omega)
    · exact Nat.div_eq_of_lt (by omega)
  rw [hr]
  generalize a.natAbs % un = M at *
  generalize hQ : a.natAbs / un = Q at *
  by_cases hz : a.natAbs = 0
  · have hM : M = 0 := by omega
    have hQ0 : Q = 0 := by rw [← hQ, hz]; exact Nat.zero_div _
    subst hM
    have hs0 : sg s 0 = 0 := by unfold sg; split <;> rfl
    rw [hQ0, hs0, if_neg (by omega : ¬ hf ≤ 0), if_neg (by omega : ¬ (hf : Int) ≤ 0), if_neg (by omega : ¬ (0 : Int) ≤ -(hf : Int))]
    simp
  · unfold sg at hs ⊢
    cases s
    · simp only [Bool.false_eq_true, if_false] at hs ⊢
      rw [if_neg (by omega : ¬ (M : Int) ≤ -(hf : Int)), if_neg (by omega : ¬ a < 0)]
      split <;> split <;> omega
    · simp only [if_true] at hs ⊢
      rw [if_neg (by omega : ¬ (hf : Int) ≤ -(M : Int)), if_pos (by omega : a < 0)]
      split <;> split <;> omega
end Go.Proofs.Ytabiacfangjbeaa.Fl
