/- Plain laws: how near a written double is to the number that is written; how near thousandths times a thousand are. -/
import Derived.Test.YtabiacfangjbeaaRe
namespace Go.Proofs.Ytabiacfangjbeaa.Fl
open Ieee

/-- a number in units -/
def tot (m : Nat) (p : Int) : Nat := m * 2 ^ (p + 1074).toNat
/-- v is t, up to a part in 2^52 -/
def Near (v t : Nat) : Prop := v * 2 ^ 52 ≤ t * 2 ^ 52 + t ∧ t * 2 ^ 52 ≤ v * 2 ^ 52 + t
theorem near_exact {s : Bool} {m : Nat} {p : Int} (h1 : m.log2 ≤ 52) (hp : -1074 ≤ p) (hhi : p ≤ 900) : sc double (double.nearest s m p) = some (sg s (tot m p)) := by
  have hm : m < 2 ^ (double.fractionBits + 1) := Nat.lt_of_lt_of_le Nat.lt_log2_self (Nat.pow_le_pow_right (by omega) (by show m.log2 + 1 ≤ 53; omega))
  have hr : Rep double (tot m p) := ⟨m, (p + 1074).toNat, rfl, hm, by have : 2 ^ double.exponentBits - 3 = 2045 := by decide
                                                                      omega⟩
  obtain ⟨w1, w2⟩ := write_exact (f := double) (by decide) (s := s) (m := m) (p := p) (v := tot m p) (by
    rw [double_place]
    have e1 : (-1074 - p : Int).toNat = 0 := by omega
    have e2 : (p - -1074 : Int).toNat = (p + 1074).toNat := by omega
    rw [e1, e2, Nat.pow_zero, Nat.mul_one]; rfl) hr
  have w1' : double.nearest s m p = double.word s (rungOf double (tot m p)) := w1
  rw [w1']
  exact w2
theorem mul_lt_of {a b c : Nat} (h : a < b * c) : a / c < b := Nat.div_lt_of_lt_mul (by rw [Nat.mul_comm]; exact h)
theorem cap {E K : Nat} (h : E ≤ 1974) (hk : K ≤ 2 ^ 53) : E * 2 ^ 52 + K < 2047 * 2 ^ 52 := by omega
theorem scale {X m D : Nat} (h : X ≤ m + D) (hD : 2 ^ 52 * D ≤ m) (Z : Nat) : X * Z * 2 ^ 52 ≤ m * Z * 2 ^ 52 + m * Z := by
  have f1 : X * 2 ^ 52 ≤ m * 2 ^ 52 + m := by omega
  have g1 := Nat.mul_le_mul_right Z f1
  rw [Nat.add_mul, Nat.mul_right_comm, Nat.mul_right_comm m] at g1
  exact g1
theorem scale2 {X m D : Nat} (h : m ≤ X + D) (hD : 2 ^ 52 * D ≤ m) (Z : Nat) : m * Z * 2 ^ 52 ≤ X * Z * 2 ^ 52 + m * Z := by
  have f1 : m * 2 ^ 52 ≤ X * 2 ^ 52 + m := by omega
  have g1 := Nat.mul_le_mul_right Z f1
  rw [Nat.add_mul, Nat.mul_right_comm, Nat.mul_right_comm X] at g1
  exact g1
/-- WRITTEN, a number is off by a part in 2^52 at most -/
theorem near_any {s : Bool} {m : Nat} {p : Int} (hm : m ≠ 0) (hp : -1074 ≤ p) (hhi : p + m.log2 ≤ 900) : ∃ V, sc double (double.nearest s m p) = some (sg s V) ∧ Near V (tot m p) := by
  by_cases h1 : m.log2 ≤ 52
  · exact ⟨_, near_exact h1 hp (by omega), by unfold Near; omega⟩
  · obtain ⟨d, hd⟩ : ∃ d, d = m.log2 - 52 := ⟨_, rfl⟩
    have hlast : max (p + m.log2 - (double.fractionBits : Nat)) double.leastPlace = p + d := by
      rw [double_place, show double.fractionBits = 52 from rfl]; omega
    have hlo : 2 ^ m.log2 ≤ m := Nat.log2_self_le hm
    have hhi2 : m < 2 ^ (m.log2 + 1) := Nat.lt_log2_self
    have e52 : 2 ^ m.log2 = 2 ^ 52 * 2 ^ d := by rw [← Nat.pow_add]; exact pow_eq (by omega)
    have e53 : 2 ^ (m.log2 + 1) = 2 ^ 53 * 2 ^ d := by rw [← Nat.pow_add]; exact pow_eq (by omega)
    have hdp := Nat.two_pow_pos d
    rw [e52] at hlo
    rw [e53] at hhi2
    have q1 : 2 ^ 52 ≤ m / 2 ^ d := (Nat.le_div_iff_mul_le hdp).2 hlo
    have q2 : m / 2 ^ d < 2 ^ 53 := mul_lt_of hhi2
    -- what is kept
    obtain ⟨K, hK, hK2⟩ : ∃ K, Toward.even.cut s (m <<< (p - (p + d)).toNat) (p + d - p).toNat = K ∧ (K = m / 2 ^ d ∨ K = m / 2 ^ d + 1) := by
      refine ⟨_, rfl, ?_⟩
      have a1 : (p - (p + d)).toNat = 0 := by omega
      have a2 : (p + d - p).toNat = d := by omega
      rw [a1, a2, Nat.shiftLeft_zero]
      unfold Toward.cut
      dsimp only
      rw [Nat.min_eq_left (by omega), Nat.shiftLeft_eq, Nat.one_mul]
      generalize (decide (2 ^ d < 2 * (m % 2 ^ d)) || 2 ^ d == 2 * (m % 2 ^ d) && m / 2 ^ d % 2 == 1) = b
      cases b
      · exact .inl rfl
      · exact .inr rfl
    obtain ⟨E, hE⟩ : ∃ E, E = (p + d + 1074).toNat := ⟨_, rfl⟩
    have hE1 : E ≤ 1974 := by omega
    have hKlt : K ≤ 2 ^ 53 := by rcases hK2 with h | h <;> rw [h] <;> omega
    have hKge : 2 ^ 52 ≤ K := by rcases hK2 with h | h <;> rw [h] <;> omega
    have hlt := cap hE1 hKlt
    have hw : double.nearest s m p = double.word s (E * 2 ^ 52 + K) := by
      unfold Format.nearest
      rw [if_neg hm]
      dsimp only
      rw [hlast, hK, double_place, bin_eq, inf_eq, show (p + (d : Int) - -1074) = p + d + 1074 by omega, ← hE]
      congr 1
      exact Nat.min_eq_left (Nat.le_of_lt hlt)
    have hmag : mag (E * 2 ^ 52 + K) = K * 2 ^ E := by
      have h4 := mag_at (E := E + 1) (F := K - 2 ^ 52) (by omega) (by omega)
      rw [show (E + 1) * 2 ^ 52 + (K - 2 ^ 52) = E * 2 ^ 52 + K by omega, show 2 ^ 52 + (K - 2 ^ 52) = K by omega, show E + 1 - 1 = E by omega] at h4
      exact h4
    refine ⟨K * 2 ^ E, ?_, ?_⟩
    · rw [hw, sc_word s hlt, hmag]
    · have hpe : 2 ^ E = 2 ^ d * 2 ^ (p + 1074).toNat := by rw [← Nat.pow_add]; exact pow_eq (by omega)
      unfold Near tot
      rw [hpe, ← Nat.mul_assoc]
      have k1 : m / 2 ^ d * 2 ^ d ≤ m := Nat.div_mul_le_self _ _
      have k2 : m < (m / 2 ^ d + 1) * 2 ^ d := by
        have := Nat.lt_div_mul_add hdp (a := m)
        rw [Nat.add_mul, Nat.one_mul]; exact this
      have k3 : K * 2 ^ d ≤ m + 2 ^ d ∧ m ≤ K * 2 ^ d + 2 ^ d := by
        rw [Nat.add_mul, Nat.one_mul] at k2
        rcases hK2 with h | h <;> rw [h]
        · exact ⟨by omega, by omega⟩
        · rw [Nat.add_mul, Nat.one_mul]; exact ⟨by omega, by omega⟩
      exact ⟨scale k3.1 hlo _, scale2 k3.2 hlo _⟩
end Go.Proofs.Ytabiacfangjbeaa.Fl
