/- Plain laws: the bits of an unsigned word of 64: and, or, and not; as the program's rounding uses them. -/
import Derived.Laws.Entries
import Derived.Test.YtabiacfangjbeaaRe
namespace Go.Proofs.Ytabiacfangjbeaa.Fl

theorem wrap_u64 {x : Nat} (h : x < 2 ^ 64) : IntKind.u64.wrap (x : Int) = x := by
  unfold IntKind.wrap
  have e : (x : Int) % (2 ^ IntKind.u64.bits : Int) = x := by
    have : IntKind.u64.bits = 64 := rfl
    rw [this]; omega
  dsimp only
  rw [e]
  rfl
theorem bits_and {x y : Nat} (hx : x < 2 ^ 64) (hy : y < 2 ^ 64) : bits .and .u64 (x : Int) (y : Int) = ((x &&& y : Nat) : Int) := by
  show IntKind.u64.wrap (BitVec.ofInt 64 x &&& BitVec.ofInt 64 y).toNat = _
  rw [BitVec.toNat_and, BitVec.ofInt_natCast, BitVec.ofInt_natCast, BitVec.toNat_ofNat, BitVec.toNat_ofNat, Nat.mod_eq_of_lt hx, Nat.mod_eq_of_lt hy]
  exact wrap_u64 (Nat.and_lt_two_pow _ hy)
theorem bits_or {x y : Nat} (hx : x < 2 ^ 64) (hy : y < 2 ^ 64) : bits .or .u64 (x : Int) (y : Int) = ((x ||| y : Nat) : Int) := by
  show IntKind.u64.wrap (BitVec.ofInt 64 x ||| BitVec.ofInt 64 y).toNat = _
  rw [BitVec.toNat_or, BitVec.ofInt_natCast, BitVec.ofInt_natCast, BitVec.toNat_ofNat, BitVec.toNat_ofNat, Nat.mod_eq_of_lt hx, Nat.mod_eq_of_lt hy]
  exact wrap_u64 (Nat.or_lt_two_pow hx hy)
theorem bits_andNot {x y : Nat} (hx : x < 2 ^ 64) (hy : y < 2 ^ 64) : bits .andNot .u64 (x : Int) (y : Int) = ((x &&& (2 ^ 64 - (y + 1)) : Nat) : Int) := by
  show IntKind.u64.wrap (BitVec.ofInt 64 x &&& ~~~ BitVec.ofInt 64 y).toNat = _
  rw [BitVec.toNat_and, BitVec.toNat_not, BitVec.ofInt_natCast, BitVec.ofInt_natCast, BitVec.toNat_ofNat, BitVec.toNat_ofNat, Nat.mod_eq_of_lt hx, Nat.mod_eq_of_lt hy]
  rw [show 2 ^ 64 - 1 - y = 2 ^ 64 - (y + 1) by omega]
  exact wrap_u64 (Nat.lt_of_le_of_lt Nat.and_le_left hx)
theorem and_low {x n : Nat} : x &&& (2 ^ n - 1) = x % 2 ^ n := Nat.and_two_pow_sub_one_eq_mod x n
theorem not_low {x d : Nat} (hx : x < 2 ^ 64) (hd : d ≤ 64) : x &&& (2 ^ 64 - (2 ^ d - 1 + 1)) = x / 2 ^ d * 2 ^ d := by
  have hp := Nat.two_pow_pos d
  have hle : 2 ^ d ≤ 2 ^ 64 := Nat.pow_le_pow_right (by omega) hd
  refine Nat.eq_of_testBit_eq fun i => ?_
  rw [Nat.testBit_and, Nat.testBit_two_pow_sub_succ (by omega), Nat.testBit_two_pow_sub_one, Nat.testBit_mul_two_pow, Nat.testBit_div_two_pow]
  by_cases h1 : d ≤ i
  · rw [show i - d + d = i by omega]
    by_cases h2 : i < 64
    · simp [h1, h2]
    · have : x.testBit i = false := Nat.testBit_lt_two_pow (Nat.lt_of_lt_of_le hx (Nat.pow_le_pow_right (by omega) (by omega)))
      simp [this]
  · simp [h1]
    intro _ _
    omega
theorem not_sign {x : Nat} : x &&& (2 ^ 64 - (2 ^ 63 + 1)) = x % 2 ^ 63 := by
  rw [show 2 ^ 64 - (2 ^ 63 + 1) = 2 ^ 63 - 1 by decide]
  exact and_low
theorem and_sign {x : Nat} (hx : x < 2 ^ 64) : x &&& 2 ^ 63 = x / 2 ^ 63 * 2 ^ 63 := by
  have h := not_low (d := 63) hx (by omega)
  rwa [show 2 ^ 64 - (2 ^ 63 - 1 + 1) = 2 ^ 63 by decide] at h
end Go.Proofs.Ytabiacfangjbeaa.Fl
