/- Plain laws: a number of thousandths, as a double, times a thousand, is that number again when rounded. -/
import Derived.Test.YtabiacfangjbeaaRl
namespace Go.Proofs.Ytabiacfangjbeaa.Fl
open Ieee

theorem read_thousand : double.read 4652007308841189376 = .number false 8796093022208000 (-43) := by decide +kernel
theorem log_thousand : (8796093022208000 : Nat).log2 = 52 := by decide +kernel
theorem close_div {q c r : Nat} (hr : r < c) : (2 * q + (r != 0).toNat) * c ≤ 2 * (c * q + r) + c ∧ 2 * (c * q + r) ≤ (2 * q + (r != 0).toNat) * c + c := by
  rw [Nat.add_mul, Nat.mul_assoc, Nat.mul_comm q c]
  generalize c * q = X
  by_cases h : r = 0
  · subst h; simp
  · have e : (r != 0) = true := by simpa using h
    rw [e, Bool.toNat_true, Nat.one_mul]
    omega
/-- C is N, up to a part in 2^51 -/
def Close (C N : Nat) : Prop := C * 2 ^ 51 ≤ N * 2 ^ 51 + N ∧ N * 2 ^ 51 ≤ C * 2 ^ 51 + N
theorem close_mix {A B N : Nat} (h1 : A * 2 ^ 54 ≤ N * 2 ^ 54 + A) (h2 : N * 2 ^ 54 ≤ A * 2 ^ 54 + A) (h3 : B * 2 ^ 52 ≤ A * 2 ^ 52 + A) (h4 : A * 2 ^ 52 ≤ B * 2 ^ 52 + A) : Close B N := by
  unfold Close; omega
theorem quotient_nn {d : Nat} {s t : Bool} {m n : Nat} {i j : Int} (hn : n ≠ 0) : Datum.quotient d (.number s m i) (.number t n j) =
    some (.number (s ^^ t) (2 * (m <<< (d + n.log2 - m.log2) / n) + (m <<< (d + n.log2 - m.log2) % n != 0).toNat) (i - j - (d + n.log2 - m.log2 : Nat) - 1)) := by
  simp [Datum.quotient, hn]
theorem times1000 {V T : Nat} (h : V * 2 ^ 52 ≤ T * 2 ^ 52 + T) : 1000 * V * 2 ^ 52 ≤ 1000 * T * 2 ^ 52 + 1000 * T := by
  have := Nat.mul_le_mul_left 1000 h
  rw [Nat.mul_add, ← Nat.mul_assoc, ← Nat.mul_assoc] at this
  exact this
theorem times1000' {V T : Nat} (h : T * 2 ^ 52 ≤ V * 2 ^ 52 + T) : 1000 * T * 2 ^ 52 ≤ 1000 * V * 2 ^ 52 + 1000 * T := by
  have := Nat.mul_le_mul_left 1000 h
  rw [Nat.mul_add, ← Nat.mul_assoc, ← Nat.mul_assoc] at this
  exact this
theorem less43 {T N D : Nat} (h : T * 2 ^ 43 ≤ N * 2 ^ 43 + D * 2 ^ 43) : T ≤ N + D := by omega
theorem up54 {A N D : Nat} (h : A ≤ N + D) (h2 : 2 ^ 54 * D ≤ A) : A * 2 ^ 54 ≤ N * 2 ^ 54 + A := by
  have := Nat.mul_le_mul_right (2 ^ 54) h
  rw [Nat.add_mul, Nat.mul_comm D] at this
  exact Nat.le_trans this (Nat.add_le_add_left h2 _)
theorem up54' {A N D : Nat} (h : N ≤ A + D) (h2 : 2 ^ 54 * D ≤ A) : N * 2 ^ 54 ≤ A * 2 ^ 54 + A := by
  have := Nat.mul_le_mul_right (2 ^ 54) h
  rw [Nat.add_mul, Nat.mul_comm D] at this
  exact Nat.le_trans this (Nat.add_le_add_left h2 _)
theorem mix_quo {T N V Y : Nat} (g1 : T * 8796093022208000 ≤ N * 2 ^ 43 + 8796093022208000 * Y) (g2 : N * 2 ^ 43 ≤ T * 8796093022208000 + 8796093022208000 * Y) (g3 : 2 ^ 54 * Y ≤ T)
    (v3 : V * 2 ^ 52 ≤ T * 2 ^ 52 + T) (v4 : T * 2 ^ 52 ≤ V * 2 ^ 52 + T) : Close (1000 * V) N := by
  have b3 := times1000 v3
  have b4 := times1000' v4
  have g4 := Nat.mul_le_mul_left 1000 g3
  rw [Nat.mul_left_comm] at g4
  have e1 : ∀ x, x * 8796093022208000 = 1000 * x * 2 ^ 43 := fun x => by rw [show (8796093022208000 : Nat) = 1000 * 2 ^ 43 by decide, ← Nat.mul_assoc, Nat.mul_comm x]
  rw [Nat.mul_comm 8796093022208000 Y, e1, e1] at g1 g2
  have a1 := less43 g1
  have a2 := less43 g2
  clear g1 g2 g3 v3 v4 e1
  generalize 1000 * T = A at *
  generalize 1000 * V = B at *
  generalize 1000 * Y = D at *
  exact close_mix (A := A) (up54 a1 g4) (up54' a2 g4) b3 b4
theorem mix_mul {C B N : Nat} (h : Close B N) (h1 : C * 2 ^ 52 ≤ B * 2 ^ 52 + B) (h2 : B * 2 ^ 52 ≤ C * 2 ^ 52 + B) : C * 2 ^ 50 ≤ N * 2 ^ 50 + N ∧ N * 2 ^ 50 ≤ C * 2 ^ 50 + N := by
  obtain ⟨a, b⟩ := h
  omega
/-- a quotient by a thousand -/
theorem quo_close {b : Nat} {s : Bool} {m : Nat} {i : Int} (hb : double.read b = .number s m i) (hm : m ≠ 0) (h1 : -64 ≤ i) (h2 : i ≤ 60) :
    ∃ x V, double.div b 4652007308841189376 = some x ∧ sc double x = some (sg s V) ∧ Close (1000 * V) (tot m i) := by
  have hml : m.log2 ≤ 52 := by
    have := (read_bounds (f := double) (by decide) hb).2.1
    have h3 : m < 2 ^ 53 := this
    have := (Nat.log2_lt hm).2 h3
    omega
  obtain ⟨more, hmore⟩ : ∃ k, k = 54 + 52 - m.log2 := ⟨_, rfl⟩
  obtain ⟨q, hq⟩ : ∃ q, q = m * 2 ^ more / 8796093022208000 := ⟨_, rfl⟩
  obtain ⟨r, hr⟩ : ∃ r, r = m * 2 ^ more % 8796093022208000 := ⟨_, rfl⟩
  obtain ⟨M, hM⟩ : ∃ M, M = 2 * q + (r != 0).toNat := ⟨_, rfl⟩
  have hdv : 8796093022208000 * q + r = m * 2 ^ more := by rw [hq, hr]; exact Nat.div_add_mod _ _
  have hrc : r < 8796093022208000 := by rw [hr]; exact Nat.mod_lt _ (by omega)
  have hlo : 2 ^ 106 ≤ m * 2 ^ more := by
    have := Nat.mul_le_mul_right (2 ^ more) (Nat.log2_self_le hm)
    rw [← Nat.pow_add] at this
    exact Nat.le_trans (Nat.le_of_eq (pow_eq (by omega))) this
  have hhi : m * 2 ^ more < 2 ^ 107 := by
    have := Nat.mul_lt_mul_of_pos_right (Nat.lt_log2_self (n := m)) (Nat.two_pow_pos more)
    rw [← Nat.pow_add] at this
    exact Nat.lt_of_lt_of_le this (Nat.le_of_eq (pow_eq (by omega)))
  have hq1 : 2 ^ 53 ≤ q := by omega
  have hq2 : q < 2 ^ 55 := by omega
  have hf1 : (r != 0).toNat ≤ 1 := by cases (r != 0) <;> simp
  have hM1 : 2 ^ 54 ≤ M := by omega
  have hM2 : M < 2 ^ 57 := by omega
  have hMl : M.log2 < 57 := (Nat.log2_lt (by omega)).2 hM2
  obtain ⟨V, v1, v2⟩ := near_any (s := s ^^ false) (m := M) (p := i - -43 - (more : Int) - 1) (by omega) (by omega) (by omega)
  refine ⟨_, V, ?_, v1.trans (by rw [Bool.xor_false]), ?_⟩
  · unfold Format.div
    rw [hb, read_thousand]
    rw [quotient_nn (by omega), log_thousand, show double.fractionBits + 2 = 54 from rfl, ← hmore, Nat.shiftLeft_eq, ← hq, ← hr, ← hM]
    rfl
  · obtain ⟨c1, c2⟩ := close_div (q := q) hrc
    rw [← hM, hdv] at c1 c2
    obtain ⟨Y, hY⟩ : ∃ Y, Y = 2 ^ (i - -43 - (more : Int) - 1 + 1074).toNat := ⟨_, rfl⟩
    have hT : tot M (i - -43 - (more : Int) - 1) = M * Y := by unfold tot; rw [hY]
    rw [hT] at v2
    have hN : 2 * (m * 2 ^ more) * Y = tot m i * 2 ^ 43 := by
      unfold tot
      rw [hY, Nat.mul_comm 2, Nat.mul_assoc, Nat.mul_assoc, Nat.mul_assoc]
      congr 1
      have e : 2 ^ more * (2 * 2 ^ (i - -43 - (more : Int) - 1 + 1074).toNat) = 2 ^ (more + (1 + (i - -43 - (more : Int) - 1 + 1074).toNat)) := by rw [Nat.pow_add, Nat.pow_add, Nat.pow_one]
      rw [e, ← Nat.pow_add]
      exact pow_eq (by omega)
    have g1 := Nat.mul_le_mul_right Y c1
    have g2 := Nat.mul_le_mul_right Y c2
    have g3 := Nat.mul_le_mul_right Y hM1
    rw [Nat.add_mul, hN, Nat.mul_right_comm] at g1
    rw [Nat.add_mul, hN, Nat.mul_right_comm] at g2
    exact mix_quo g1 g2 g3 v2.1 v2.2
theorem pow_le_inv {a b : Nat} (h : 2 ^ a ≤ 2 ^ b) : a ≤ b := (Nat.pow_le_pow_iff_right (by omega)).1 h
theorem pow_lt_inv {a b : Nat} (h : 2 ^ a < 2 ^ b) : a < b := (Nat.pow_lt_pow_iff_right (by omega)).1 h
/-- where the place of a number lies that is neither small nor great -/
theorem place_of {m : Nat} {p : Int} (hp : -1074 ≤ p) (hm : m < 2 ^ 53) (h1 : un ≤ tot m p * 2 ^ 11) (h2 : tot m p ≤ 2 ^ 31 * un) : m ≠ 0 ∧ -64 ≤ p ∧ p ≤ 31 := by
  obtain ⟨A, hA⟩ : ∃ A, A = 1074 := ⟨_, rfl⟩
  have hup := un_pos
  have hm0 : m ≠ 0 := by
    intro h
    subst h
    unfold tot at h1
    rw [Nat.zero_mul, Nat.zero_mul] at h1
    omega
  unfold tot at h1 h2
  obtain ⟨e, he⟩ : ∃ e, e = (p + 1074).toNat := ⟨_, rfl⟩
  rw [← he, un_pow hA] at h1 h2
  have l1 : A < 53 + e + 11 := by
    refine pow_lt_inv (Nat.lt_of_le_of_lt h1 ?_)
    rw [Nat.pow_add, Nat.pow_add]
    exact Nat.mul_lt_mul_of_pos_right (Nat.mul_lt_mul_of_pos_right hm (Nat.two_pow_pos _)) (Nat.two_pow_pos _)
  have l2 : e ≤ 31 + A := by
    refine pow_le_inv (Nat.le_trans (Nat.le_trans ?_ h2) (Nat.le_of_eq (Nat.pow_add _ _ _).symm))
    exact Nat.le_mul_of_pos_left _ (by omega)
  exact ⟨hm0, by omega, by omega⟩
theorem sg_inj {s t : Bool} {V W : Nat} (h : sg s V = sg t W) (hV : V ≠ 0) : s = t ∧ V = W := by
  unfold sg at h
  cases s <;> cases t <;> simp at h <;> first | (exact ⟨rfl, by omega⟩) | (exfalso; omega)
/-- a product by a thousand -/
theorem mul_close {x : Nat} {s : Bool} {V N : Nat} (hx : sc double x = some (sg s V)) (hc : Close (1000 * V) N) (h1 : un ≤ N) (h2 : N ≤ 1000000000 * un) :
    ∃ y C, double.mul x 4652007308841189376 = some y ∧ sc double y = some (sg s C) ∧ C * 2 ^ 50 ≤ N * 2 ^ 50 + N ∧ N * 2 ^ 50 ≤ C * 2 ^ 50 + N := by
  obtain ⟨c1, c2⟩ := hc
  have hup := un_pos
  obtain ⟨s', m, p, e, hp, hs⟩ := sc_read hx
  rw [double_place] at hp
  obtain ⟨rfl, hV⟩ := sg_inj hs (by omega)
  have hT : V = tot m p := by
    rw [hV]; unfold unitsOf tot; rw [double_place]; congr 2
  have hm53 : m < 2 ^ 53 := (read_bounds (f := double) (by decide) e).2.1
  obtain ⟨hm0, p1, p2⟩ := place_of hp hm53 (by rw [← hT]; omega) (by rw [← hT]; omega)
  have hml : (m * 8796093022208000).log2 ≤ 106 := by
    have : (m * 8796093022208000).log2 < 107 := (Nat.log2_lt (by omega)).2 (by omega)
    omega
  obtain ⟨C, d1, d2, d3⟩ := near_any (s := s ^^ false) (m := m * 8796093022208000) (p := p + -43) (by omega) (by omega) (by omega)
  have hTC : tot (m * 8796093022208000) (p + -43) = 1000 * V := by
    rw [hT]
    unfold tot
    rw [show (8796093022208000 : Nat) = 2 ^ 43 * 1000 by decide, Nat.mul_comm 1000, ← Nat.mul_assoc, Nat.mul_right_comm, Nat.mul_assoc m, ← Nat.pow_add]
    congr 2
    exact pow_eq (by omega)
  rw [hTC] at d2 d3
  obtain ⟨m1, m2⟩ := mix_mul ⟨c1, c2⟩ d2 d3
  refine ⟨_, C, ?_, d1.trans (by rw [Bool.xor_false]), m1, m2⟩
  unfold Format.mul
  rw [e, read_thousand]
  rfl
theorem floatOf_zero : fop .mul .f64 (fop .quo .f64 (fv .f64 (floatOfInt .f64 0)) (fv .f64 4652007308841189376)) (fv .f64 4652007308841189376) = some 0 := by decide +kernel
theorem mul_zero_z : fop .mul .f64 (fv .f64 0) (fv .f64 4652007308841189376) = some 0 := by decide +kernel
theorem tfx_zero : tfx (some 0) = (0, true) := by
  have h : (some 0 : Option Nat).bind (sc double) = some 0 := by decide +kernel
  have h2 : tfr 0 = 0 := by
    unfold tfr
    have := un_hf
    have := hf_pos
    exact Nat.div_eq_of_lt (by simp; omega)
  rw [tfx_some h (by rw [h2]; omega), h2]
  rfl
theorem fv_num {b : Nat} {a : Int} (h : sc double b = some a) : fv .f64 b = some b := fv_some.2 ⟨sc_notNaN h, rfl⟩
/-- THE LAW -/
theorem there_and_back (n : Int) (h : n.natAbs ≤ 1000000000) : tfx (fop .mul .f64 (fop .quo .f64 (fv .f64 (floatOfInt .f64 n)) (fv .f64 4652007308841189376)) (fv .f64 4652007308841189376)) = (n, true) := by
  by_cases hn : n = 0
  · subst hn
    rw [floatOf_zero]
    exact tfx_zero
  · obtain ⟨A, hA⟩ : ∃ A, A = 1074 := ⟨_, rfl⟩
    obtain ⟨m, p, e, hp, hT⟩ := int_double n (by omega) A hA
    rw [← un_pow hA] at hT
    have hup := un_pos
    have hun := un_hf
    have hN : tot m p = n.natAbs * un := hT
    have hN1 : un ≤ n.natAbs * un := Nat.le_mul_of_pos_left _ (by omega)
    have hN2 : n.natAbs * un ≤ 1000000000 * un := Nat.mul_le_mul_right _ h
    have hm53 : m < 2 ^ 53 := (read_bounds (f := double) (by decide) e).2.1
    obtain ⟨hm0, p1, p2⟩ := place_of hp hm53 (by rw [hN]; omega) (by rw [hN]; omega)
    obtain ⟨x, V, x1, x2, x3⟩ := quo_close e hm0 p1 (by omega)
    rw [hN] at x3
    obtain ⟨y, C, y1, y2, y3, y4⟩ := mul_close x2 x3 hN1 hN2
    have hc1 : sc double 4652007308841189376 = some (1000 * (un : Int)) := by decide +kernel
    have f0 : sc double (floatOfInt .f64 n) = some (sg (decide (n < 0)) (unitsOf double m p)) := by unfold sc; rw [e]
    rw [fv_num f0, fv_num hc1]
    have q1 : fop .quo .f64 (some (floatOfInt .f64 n)) (some 4652007308841189376) = some x := x1
    rw [q1]
    have q2 : fop .mul .f64 (some x) (some 4652007308841189376) = some y := y1
    rw [q2]
    have q3 : (some y : Option Nat).bind (sc double) = some (sg (decide (n < 0)) C) := y2
    have hr : tfr (sg (decide (n < 0)) C) = n.natAbs := by
      unfold tfr
      rw [sg_natAbs]
      refine Nat.div_eq_of_lt_le ?_ ?_
      · generalize n.natAbs * un = N at *; omega
      · rw [Nat.add_mul, Nat.one_mul]
        generalize n.natAbs * un = N at *; omega
    have hC0 : C ≠ 0 := by generalize n.natAbs * un = N at *; omega
    rw [tfx_some q3 (by rw [hr]; exact h), hr]
    congr 1
    unfold sg
    by_cases h0 : n < 0
    · simp only [h0, decide_true, if_true]
      rw [if_pos (by omega)]; omega
    · simp only [h0, decide_false]
      simp only [Bool.false_eq_true, if_false]
      rw [if_neg (by omega)]; omega
end Go.Proofs.Ytabiacfangjbeaa.Fl
