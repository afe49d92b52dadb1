/- Laws of floats: a small whole number as a double, and that double as a single. -/
import Derived.Test.YtbjllfnjecggfaaFc
namespace Go.Proofs.Ytbjllfnjecggfaa.Fl
open Ieee

theorem rep_small (f : Format) (m j : Nat) (h : m < 2 ^ (f.fractionBits + 1)) (hj : j ≤ 2 ^ f.exponentBits - 3) : Rep f (m * 2 ^ j) := ⟨m, j, rfl, h, hj⟩

theorem shift_eq (m k A B C D : Nat) (h : m * 2 ^ A = k * 2 ^ B) (e : A + D = B + C) : m * 2 ^ C = k * 2 ^ D := by
  refine Nat.eq_of_mul_eq_mul_right (Nat.two_pow_pos A) ?_
  rw [Nat.mul_assoc, Nat.mul_comm (2 ^ C), ← Nat.mul_assoc, h, Nat.mul_assoc, ← Nat.pow_add, Nat.mul_assoc, ← Nat.pow_add, Nat.add_comm D A, e]

/-- a whole number as a double -/
theorem int_double (n : Int) (h : n.natAbs < 2 ^ 53) (U : Nat) (hU : U = 1074) : ∃ m p, double.read (floatOfInt .f64 n) = .number (n < 0) m p ∧ -1074 ≤ p ∧ m * 2 ^ (p + 1074).toNat = n.natAbs * 2 ^ U := by
  have hj : U ≤ 2 ^ double.exponentBits - 3 := by rw [hU]; decide
  have hr : Rep double (n.natAbs * 2 ^ U) := ⟨n.natAbs, U, rfl, h, hj⟩
  have e1 : floatOfInt .f64 n = double.word (n < 0) (rungOf double (n.natAbs * 2 ^ U)) := by
    refine nearest_exact double (by decide) (n < 0) n.natAbs 0 _ ?_ hr
    have a1 : ((0 : Int) - double.leastPlace).toNat = U := by rw [double_place, hU]; rfl
    have a2 : (double.leastPlace - (0 : Int)).toNat = 0 := by rw [double_place]; rfl
    rw [a1, a2, Nat.pow_zero, Nat.mul_one]
  obtain ⟨m, p, h1, h2, h3⟩ := read_exact double (by decide) (n < 0) hr
  rw [double_place] at h2
  refine ⟨m, p, by rw [e1]; exact h1, h2, ?_⟩
  rw [← h3]
  unfold unitsOf
  rw [double_place]
  congr 2
theorem sc_int (n : Int) (h : n.natAbs < 2 ^ 53) (U : Nat) (hU : U = 1074) : sc double (floatOfInt .f64 n) = some (n * ((2 ^ U : Nat) : Int)) := by
  obtain ⟨m, p, h1, h2, h3⟩ := int_double n h U hU
  unfold sc unitsOf
  rw [h1, double_place]
  have e : (p - -1074 : Int).toNat = (p + 1074).toNat := by omega
  simp only [e, h3]
  congr 1
  generalize 2 ^ U = V
  unfold sg
  by_cases hn : n < 0
  · simp only [hn, decide_true, if_true]
    rw [Int.natCast_mul, show ((n.natAbs : Nat) : Int) = -n by omega, Int.neg_mul, Int.neg_neg]
  · simp only [hn, decide_false]
    rw [if_neg (by simp), Int.natCast_mul, show ((n.natAbs : Nat) : Int) = n by omega]

theorem narrow_exact {x : Nat} {s : Bool} {m : Nat} {p : Int} {k : Nat} {U : Nat} (hU : U = 1074) (h1 : double.read x = .number s m p) (h2 : -1074 ≤ p) (h3 : m * 2 ^ (p + 1074).toNat = k * 2 ^ U) (hk : k < 2 ^ 24) :
    ∃ r, floatToFloatBits .f64 x .f32 = some r ∧ sc single r = some (sg s (k * 2 ^ 149)) := by
  have hr : Rep single (k * 2 ^ 149) := rep_small single k 149 hk (by decide)
  have hw : m * 2 ^ (p - single.leastPlace).toNat = k * 2 ^ 149 * 2 ^ (single.leastPlace - p).toNat := by
    rw [single_place, Nat.mul_assoc, ← Nat.pow_add]
    exact shift_eq m k _ U _ _ h3 (by omega)
  obtain ⟨w1, w2⟩ := write_exact (by decide) hw hr (s := s)
  refine ⟨_, ?_, w2⟩
  unfold floatToFloatBits
  simp only [FloatKind.decode, FloatKind.encode, FloatKind.format, h1, w1, sc_notInf w2]
  simp

/-- a small whole number as a double, and that as a single -/
def nc (n : Int) : Nat := (floatToFloatBits .f64 (floatOfInt .f64 n) .f32).getD 0
theorem nc_spec (n : Int) (h : n.natAbs < 2 ^ 24) : floatToFloatBits .f64 (floatOfInt .f64 n) .f32 = some (nc n) ∧ (single.read (nc n)).isNaN = false := by
  obtain ⟨U, hU⟩ : ∃ U, U = 1074 := ⟨_, rfl⟩
  obtain ⟨m, p, h1, h2, h3⟩ := int_double n (by omega) U hU
  obtain ⟨r, e1, e2⟩ := narrow_exact hU h1 h2 h3 h
  unfold nc
  rw [e1]
  exact ⟨rfl, sc_notNaN e2⟩
theorem cvbits_int (w : World) (n : Int) (h : n.natAbs < 2 ^ 24) : cvbits w .f64 (floatOfInt .f64 n) .f32 = nc n := by
  unfold cvbits; rw [(nc_spec n h).1]; rfl
theorem cvbits_some {w : World} {s d : FloatKind} {b r : Nat} (h : floatToFloatBits s b d = some r) : cvbits w s b d = r := by
  unfold cvbits; rw [h]; rfl
theorem one_narrow : floatToFloatBits .f64 4607182418800017408 .f32 = some 1065353216 := by decide +kernel
theorem cvbits_one (w : World) : cvbits w .f64 4607182418800017408 .f32 = 1065353216 := cvbits_some one_narrow
theorem one_self : (FloatKind.f32.format.order 1065353216 1065353216 == some .eq) = true := by decide +kernel

end Go.Proofs.Ytbjllfnjecggfaa.Fl
