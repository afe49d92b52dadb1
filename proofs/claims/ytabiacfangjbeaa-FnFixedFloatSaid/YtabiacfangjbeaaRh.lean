/- Plain laws: what math.Round's bits are. -/
import Derived.Test.YtabiacfangjbeaaRf
namespace Go.Proofs.Ytabiacfangjbeaa.Fl
open Ieee

/-- what math.Round's walk gives -/
def rndB (b : Nat) : Int :=
  if bits .and .u64 ((b : Int) / 4503599627370496) 2047 < 1023 then
    if bits .and .u64 ((b : Int) / 4503599627370496) 2047 = 1022 then bits .or .u64 (bits .and .u64 (b : Int) 9223372036854775808) 4607182418800017408
    else bits .and .u64 (b : Int) 9223372036854775808
  else if bits .and .u64 ((b : Int) / 4503599627370496) 2047 < 1075 then
    bits .andNot .u64 (IntKind.u64.wrap ((b : Int) + 2251799813685248 / 2 ^ (bits .and .u64 ((b : Int) / 4503599627370496) 2047 - 1023).toNat)) (4503599627370495 / 2 ^ (bits .and .u64 ((b : Int) / 4503599627370496) 2047 - 1023).toNat)
  else b
theorem exp_bits {b : Nat} (hb : b < 2 ^ 64) : bits .and .u64 ((b : Int) / 4503599627370496) 2047 = ((b / 2 ^ 52 % 2048 : Nat) : Int) := by
  have h := bits_and (x := b / 4503599627370496) (y := 2047) (by omega) (by decide)
  rw [show (2047 : Nat) = 2 ^ 11 - 1 by decide, and_low] at h
  exact h
theorem sign_bits {b : Nat} (hb : b < 2 ^ 64) : bits .and .u64 (b : Int) 9223372036854775808 = ((b / 2 ^ 63 * 2 ^ 63 : Nat) : Int) := by
  have h := bits_and (x := b) (y := 2 ^ 63) hb (by decide)
  rw [and_sign hb] at h
  exact h
theorem half_up {k : Nat} (h : k ≤ 51) : (2251799813685248 : Int) / 2 ^ k = ((2 ^ (51 - k) : Nat) : Int) := by
  have e : (2251799813685248 : Int) / 2 ^ k = ((2251799813685248 / 2 ^ k : Nat) : Int) := by rw [Int.natCast_ediv, Int.natCast_pow]; rfl
  have e2 : (2251799813685248 : Nat) = 2 ^ (51 - k) * 2 ^ k := by rw [← Nat.pow_add, show 51 - k + k = 51 by omega]
  rw [e, e2, Nat.mul_div_cancel _ (Nat.two_pow_pos _)]
theorem low_mask {k : Nat} (h : k ≤ 51) : (4503599627370495 : Int) / 2 ^ k = ((2 ^ (52 - k) - 1 : Nat) : Int) := by
  have e : (4503599627370495 : Int) / 2 ^ k = ((4503599627370495 / 2 ^ k : Nat) : Int) := by rw [Int.natCast_ediv, Int.natCast_pow]; rfl
  have e2 : (4503599627370496 : Nat) = 2 ^ (52 - k) * 2 ^ k := by rw [← Nat.pow_add, show 52 - k + k = 52 by omega]
  rw [e]
  congr 1
  have hp := Nat.two_pow_pos k
  have hq := Nat.two_pow_pos (52 - k)
  refine Nat.div_eq_of_lt_le ?_ ?_
  · rw [Nat.sub_mul, ← e2]; omega
  · rw [Nat.sub_add_cancel hq, ← e2]; omega
/-- WHAT IT IS: the sign, and the rounded rung -/
theorem rndB_word (s : Bool) {R : Nat} (hR : R < 2 ^ 63) : rndB (double.word s R) = ((double.word s (rndR R) : Nat) : Int) := by
  have hsw := sw_eq
  have hb : double.word s R < 2 ^ 64 := by unfold Format.word; split <;> omega
  have hE : double.word s R / 2 ^ 52 % 2048 = R / 2 ^ 52 := by unfold Format.word; split <;> omega
  have hS : double.word s R / 2 ^ 63 * 2 ^ 63 = double.word s 0 := by unfold Format.word; rw [hsw]; split <;> omega
  unfold rndB
  rw [exp_bits hb, sign_bits hb, hE, hS]
  unfold rndR
  by_cases h1 : R / 2 ^ 52 < 1023
  · rw [if_pos (by omega), if_pos h1]
    by_cases h2 : R / 2 ^ 52 = 1022
    · rw [if_pos (by omega), if_pos h2]
      cases s <;> decide +kernel
    · rw [if_neg (by omega), if_neg h2]
  · rw [if_neg (by omega), if_neg h1]
    by_cases h2 : R / 2 ^ 52 < 1075
    · rw [if_pos (by omega), if_pos h2]
      generalize hEE : R / 2 ^ 52 = E at *
      have ek : ((E : Int) - 1023).toNat = E - 1023 := by omega
      rw [ek, half_up (by omega), low_mask (by omega), show 51 - (E - 1023) = 1074 - E by omega, show 52 - (E - 1023) = 1075 - E by omega]
      obtain ⟨d, hd⟩ : ∃ d, d = 1074 - E := ⟨_, rfl⟩
      rw [← hd, show 1075 - E = d + 1 by omega]
      have hD : 2 ^ d ≤ 2 ^ 51 := Nat.pow_le_pow_right (by omega) (by omega)
      have hD2 : 2 ^ (d + 1) ≤ 2 ^ 52 := Nat.pow_le_pow_right (by omega) (by omega)
      have hlt : double.word s R + 2 ^ d < 2 ^ 64 := by unfold Format.word; split <;> omega
      rw [← Int.natCast_add, wrap_u64 hlt, bits_andNot hlt (by omega), not_low hlt (by omega)]
      congr 1
      have hdv : 2 ^ 63 = 2 ^ (62 - d) * 2 ^ (d + 1) := by rw [← Nat.pow_add]; exact pow_eq (by omega)
      unfold Format.word
      rw [hsw]
      cases s
      · simp only [Bool.false_eq_true, if_false]
      · simp only [if_true]
        conv => lhs; rw [hdv]
        rw [Nat.add_assoc, Nat.mul_comm (2 ^ (62 - d)), Nat.mul_add_div (Nat.two_pow_pos _), Nat.add_mul, ← hdv]
    · rw [if_neg (by omega), if_neg h2]
end Go.Proofs.Ytabiacfangjbeaa.Fl
