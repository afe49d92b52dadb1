/- Plain laws: a double rounded to a whole number by its bits (half a unit up), cut off to a whole number, and what these are worth. -/
import Derived.Test.YtabiacfangjbeaaFd
namespace Go.Proofs.Ytabiacfangjbeaa.Fl
open Ieee

/-- a power of two, not to be worked out -/
@[irreducible] def pw (n : Nat) : Nat := 2 ^ n
theorem pw_eq (n : Nat) : pw n = 2 ^ n := by unfold pw; rfl
theorem pw_pos (n : Nat) : 0 < pw n := by rw [pw_eq]; exact Nat.two_pow_pos _
theorem pw_dbl {a b : Nat} (h : a = b + 1) : pw a = 2 * pw b := by rw [h, pw_eq, pw_eq, Nat.pow_succ']
theorem pw_split {a b c : Nat} (h : a + b = c) : 2 ^ a * 2 ^ b = pw c := by rw [pw_eq, ← h, Nat.pow_add]
/-- one, in units of the double's least place -/
def un : Nat := pw 1074
/-- a half -/
def hf : Nat := pw 1073
theorem pow_eq {a b : Nat} (h : a = b) : 2 ^ a = 2 ^ b := by rw [h]
theorem un_hf : un = 2 * hf := pw_dbl rfl
theorem hf_pos : 0 < hf := pw_pos _
theorem un_pos : 0 < un := pw_pos _
theorem un_pow {A : Nat} (h : A = 1074) : un = 2 ^ A := by rw [← pw_eq, h]; rfl
theorem un_split {a b : Nat} (h : a + b = 1074) : 2 ^ a * 2 ^ b = un := pw_split h
theorem hf_split {a b : Nat} (h : a + b = 1073) : 2 ^ a * 2 ^ b = hf := pw_split h

/-- a rung's worth in units -/
def mag (R : Nat) : Nat := if R < 2 ^ 52 then R else (2 ^ 52 + R % 2 ^ 52) * 2 ^ (R / 2 ^ 52 - 1)
theorem sw_eq : double.signWeight = 2 ^ 63 := rfl
theorem bin_eq : double.binade = 2 ^ 52 := rfl
theorem inf_eq : double.infRung = 2047 * 2 ^ 52 := by decide
theorem read_rung (s : Bool) {R : Nat} (h : R < 2047 * 2 ^ 52) : ∃ m p, double.read (double.word s R) = .number s m p ∧ -1074 ≤ p ∧ unitsOf double m p = mag R := by
  have h1 : R < double.signWeight := by rw [sw_eq]; omega
  rw [read_word double s h1, bin_eq, inf_eq, double_place]
  unfold mag
  by_cases hl : R < 2 ^ 52
  · rw [if_pos hl, if_pos hl]
    exact ⟨_, _, rfl, Int.le_refl _, by unfold unitsOf; rw [double_place]; simp⟩
  · rw [if_neg hl, if_neg hl, if_pos h]
    refine ⟨_, _, rfl, by omega, ?_⟩
    unfold unitsOf
    rw [double_place]
    congr 2
    omega
theorem sc_word (s : Bool) {R : Nat} (h : R < 2047 * 2 ^ 52) : sc double (double.word s R) = some (sg s (mag R)) := by
  obtain ⟨m, p, e, _, hu⟩ := read_rung s h
  unfold sc
  rw [e, ← hu]
theorem word_of {b : Nat} (h : b < 2 ^ 64) : ∃ s R, b = double.word s R ∧ R < 2 ^ 63 := by
  refine ⟨decide (2 ^ 63 ≤ b), b % 2 ^ 63, ?_, by omega⟩
  unfold Format.word
  rw [sw_eq]
  by_cases h1 : 2 ^ 63 ≤ b <;> simp only [h1, decide_true, decide_false, if_true] <;> simp <;> omega
theorem mag_at {E F : Nat} (hE : 1 ≤ E) (hF : F ≤ 2 ^ 52) : mag (E * 2 ^ 52 + F) = (2 ^ 52 + F) * 2 ^ (E - 1) := by
  unfold mag
  rw [if_neg (by omega)]
  by_cases h : F = 2 ^ 52
  · subst h
    have e1 : (E * 2 ^ 52 + 2 ^ 52) % 2 ^ 52 = 0 := by omega
    have e2 : (E * 2 ^ 52 + 2 ^ 52) / 2 ^ 52 = E + 1 := by omega
    have e3 : 2 ^ (E + 1 - 1) = 2 * 2 ^ (E - 1) := by rw [← Nat.pow_succ']; exact pow_eq (by omega)
    rw [e1, e2, e3, ← Nat.mul_assoc]
  · have e1 : (E * 2 ^ 52 + F) % 2 ^ 52 = F := by omega
    have e2 : (E * 2 ^ 52 + F) / 2 ^ 52 = E := by omega
    rw [e1, e2]

/-- the rung of a rounded number -/
def rndR (R : Nat) : Nat :=
  if R / 2 ^ 52 < 1023 then (if R / 2 ^ 52 = 1022 then 1023 * 2 ^ 52 else 0)
  else if R / 2 ^ 52 < 1075 then (R + 2 ^ (1074 - R / 2 ^ 52)) / 2 ^ (1075 - R / 2 ^ 52) * 2 ^ (1075 - R / 2 ^ 52)
  else R
theorem mag_lt {E F : Nat} (h : F < 2 ^ 52) {a : Nat} (ha : E ≤ a) : mag (E * 2 ^ 52 + F) < 2 ^ 52 * 2 ^ a := by
  have hZ : 2 ^ (E - 1) ≤ 2 ^ (a - 1) := Nat.pow_le_pow_right (by omega) (by omega)
  by_cases hE : E = 0
  · subst hE
    rw [Nat.zero_mul, Nat.zero_add]
    unfold mag
    rw [if_pos h]
    have := Nat.two_pow_pos a
    have : 2 ^ 52 * 1 ≤ 2 ^ 52 * 2 ^ a := Nat.mul_le_mul_left _ (by omega)
    omega
  · rw [mag_at (by omega) (by omega)]
    have e : 2 ^ a = 2 * 2 ^ (a - 1) := by rw [← Nat.pow_succ']; exact pow_eq (by omega)
    rw [e, ← Nat.mul_assoc]
    refine Nat.lt_of_lt_of_le (Nat.mul_lt_mul_of_pos_right (by omega : 2 ^ 52 + F < 2 ^ 52 * 2) (Nat.two_pow_pos _)) ?_
    exact Nat.mul_le_mul_left _ hZ
/-- WHAT ROUNDING GIVES: half a unit up, then whole units -/
theorem mag_rnd {R : Nat} (h : R / 2 ^ 52 < 1075) : mag (rndR R) = (mag R + hf) / un * un ∧ rndR R < 2047 * 2 ^ 52 := by
  obtain ⟨E, hE⟩ : ∃ E, E = R / 2 ^ 52 := ⟨_, rfl⟩
  obtain ⟨F, hF⟩ : ∃ F, F = R % 2 ^ 52 := ⟨_, rfl⟩
  have hR : R = E * 2 ^ 52 + F := by omega
  have hF2 : F < 2 ^ 52 := by omega
  have hun := un_hf
  have hhp := hf_pos
  have key : ∀ {r : Nat}, r * un ≤ mag R + hf → mag R + hf < (r + 1) * un → (mag R + hf) / un = r := by
    intro r h1 h2
    exact Nat.div_eq_of_lt_le h1 h2
  unfold rndR
  rw [← hE] at h ⊢
  by_cases h1 : E < 1023
  · rw [if_pos h1]
    by_cases h2 : E = 1022
    · rw [if_pos h2]
      refine ⟨?_, by omega⟩
      obtain ⟨G, hG⟩ : ∃ G, G = 1023 := ⟨_, rfl⟩
      have m1 := mag_at (E := G) (F := 0) (by omega) (by omega)
      rw [Nat.add_zero, Nat.add_zero, un_split (by omega), hG] at m1
      rw [m1]
      have m2 := mag_at (E := E) (F := F) (by omega) (by omega)
      obtain ⟨A, hA⟩ : ∃ A, A = 1022 := ⟨_, rfl⟩
      have m3 := mag_lt (E := E) (a := A) hF2 (by omega)
      rw [un_split (by omega), ← hR] at m3
      rw [← hR] at m2
      have m4 : hf ≤ mag R := by
        rw [m2, ← hf_split (a := 52) (b := E - 1) (by omega)]
        exact Nat.mul_le_mul_right _ (by omega)
      rw [key (r := 1) (by omega) (by omega), Nat.one_mul]
    · rw [if_neg h2]
      refine ⟨?_, by omega⟩
      obtain ⟨A, hA⟩ : ∃ A, A = 1021 := ⟨_, rfl⟩
      have m3 := mag_lt (E := E) (a := A) hF2 (by omega)
      rw [hf_split (by omega), ← hR] at m3
      rw [key (r := 0) (by omega) (by omega), Nat.zero_mul]
      rfl
  · rw [if_neg h1, if_pos h]
    obtain ⟨d, hd⟩ : ∃ d, d = 1074 - E := ⟨_, rfl⟩
    have hd1 : 1075 - E = d + 1 := by omega
    rw [← hd, hd1]
    have hD : 2 ^ (d + 1) = 2 * 2 ^ d := Nat.pow_succ'
    have hdv : 2 ^ 52 = 2 ^ (51 - d) * 2 ^ (d + 1) := by rw [← Nat.pow_add]; exact pow_eq (by omega)
    have m2 := mag_at (E := E) (F := F) (by omega) (by omega)
    rw [← hR] at m2
    have u1 : 2 ^ (d + 1) * 2 ^ (E - 1) = un := un_split (by omega)
    have u2 : 2 ^ d * 2 ^ (E - 1) = hf := hf_split (by omega)
    have hp : 0 < 2 ^ (d + 1) := Nat.two_pow_pos _
    -- the rounded significand
    have e1 : (mag R + hf) / un = (2 ^ 52 + F + 2 ^ d) / 2 ^ (d + 1) := by
      rw [m2, ← u1, ← u2, ← Nat.add_mul, Nat.mul_div_mul_right _ _ (Nat.two_pow_pos _)]
    have e2 : (2 ^ 52 + F + 2 ^ d) / 2 ^ (d + 1) = 2 ^ (51 - d) + (F + 2 ^ d) / 2 ^ (d + 1) := by
      rw [Nat.add_assoc]
      conv => lhs; rw [hdv]
      rw [Nat.mul_comm, Nat.mul_add_div hp]
    have e3 : (R + 2 ^ d) / 2 ^ (d + 1) = E * 2 ^ (51 - d) + (F + 2 ^ d) / 2 ^ (d + 1) := by
      rw [hR, Nat.add_assoc]
      conv => lhs; rw [hdv]
      rw [← Nat.mul_assoc, Nat.mul_comm, Nat.mul_add_div hp]
    have e4 : (F + 2 ^ d) / 2 ^ (d + 1) * 2 ^ (d + 1) ≤ 2 ^ 52 := by
      have : (F + 2 ^ d) / 2 ^ (d + 1) < 2 ^ (51 - d) + 1 := by
        refine Nat.div_lt_of_lt_mul ?_
        rw [Nat.mul_add, Nat.mul_one, Nat.mul_comm, ← hdv]
        have := Nat.two_pow_pos d
        omega
      rw [hdv]
      exact Nat.mul_le_mul_right _ (by omega)
    rw [e3, e1, e2]
    generalize (F + 2 ^ d) / 2 ^ (d + 1) = Q at *
    have e5 : (E * 2 ^ (51 - d) + Q) * 2 ^ (d + 1) = E * 2 ^ 52 + Q * 2 ^ (d + 1) := by rw [Nat.add_mul, Nat.mul_assoc, ← hdv]
    have e6 : 2 ^ 52 + Q * 2 ^ (d + 1) = (2 ^ (51 - d) + Q) * 2 ^ (d + 1) := by rw [Nat.add_mul, ← hdv]
    rw [e5]
    refine ⟨?_, by omega⟩
    rw [mag_at (by omega) e4, e6, Nat.mul_assoc, u1]
end Go.Proofs.Ytabiacfangjbeaa.Fl
