/- Plain laws of floats: a product with 1; what a single is as a double tells which number it is. -/
import Derived.Test.YtbjllfnjecggfaaFe
namespace Go.Proofs.Ytbjllfnjecggfaa.Fl
open Ieee

theorem read_one : single.read 1065353216 = .number false 8388608 (-23) := by decide +kernel
theorem widen_num {x : Nat} {s : Bool} {m : Nat} {p : Int} {U : Nat} (hU : U = 925) (h : single.read x = .number s m p) :
    widen (fv .f32 x) = some (double.word s (rungOf double (unitsOf single m p * 2 ^ U))) := by
  have h1 : fv .f32 x = some x := fv_some.2 ⟨by show (single.read x).isNaN = false; rw [h]; rfl, rfl⟩
  obtain ⟨w1, w2⟩ := widen_exact h
  have hp := (read_bounds (by decide) h).1
  rw [single_place] at hp
  have e : m * 2 ^ (p + 1074).toNat = unitsOf single m p * 2 ^ U := by
    unfold unitsOf
    rw [single_place, Nat.mul_assoc, ← Nat.pow_add]
    congr 2
    omega
  rw [e] at w1 w2
  rw [h1]
  show floatToFloatBits .f32 x .f64 = _
  unfold floatToFloatBits
  simp only [FloatKind.decode, FloatKind.encode, FloatKind.format, h, w1, sc_notInf w2]
  simp
/-- a product with 1 is the same number -/
theorem mul_one {x : Nat} {a : Int} (hx : sc single x = some a) : ∃ r, fop .mul .f32 (fv .f32 x) (fv .f32 1065353216) = some r ∧ sc single r = some a ∧ widen (some r) = widen (fv .f32 x) := by
  obtain ⟨s, m, p, hr, hp, rfl⟩ := sc_read hx
  have hrep := rep_of_read (by decide) hr
  have hp' : (-149 : Int) ≤ p := hp
  have hw : m * 8388608 * 2 ^ (p + -23 - single.leastPlace).toNat = unitsOf single m p * 2 ^ (single.leastPlace - (p + -23)).toNat := by
    unfold unitsOf
    rw [single_place, show (8388608 : Nat) = 2 ^ 23 by decide, Nat.mul_assoc, Nat.mul_assoc, ← Nat.pow_add, ← Nat.pow_add]
    congr 2
    omega
  obtain ⟨w1, w2⟩ := write_exact (f := single) (by decide) (s := s) hw hrep
  obtain ⟨m', p', e1, e2, e3⟩ := read_exact single (by decide) s hrep
  have hm : fop .mul .f32 (fv .f32 x) (fv .f32 1065353216) = some (single.word s (rungOf single (unitsOf single m p))) := by
    rw [← floatBits_fv]
    show single.mul x 1065353216 = _
    unfold Format.mul
    rw [hr, read_one]
    simp only [Datum.product, Option.map_some, Bool.xor_false]
    rw [w1]
  refine ⟨_, hm, w2, ?_⟩
  have e4 : fv .f32 (single.word s (rungOf single (unitsOf single m p))) = some (single.word s (rungOf single (unitsOf single m p))) := fv_some.2 ⟨sc_notNaN w2, rfl⟩
  rw [← e4, widen_num rfl e1, widen_num rfl hr, e3]
theorem mul_one_any {x r : Nat} (hx : inRng 1132462080 x = true) (h : fv .f32 r = fop .mul .f32 (fv .f32 x) (fv .f32 1065353216)) : inRng 1132462080 r = true ∧ widen (fv .f32 r) = widen (fv .f32 x) := by
  obtain ⟨a, ha, _, _⟩ := inRng_sc sc_256 hx
  obtain ⟨q, h1, h2, h3⟩ := mul_one ha
  rw [h1] at h
  have e := (fv_some.1 h).2
  subst e
  exact ⟨by rw [inRng_of_sc sc_256 h2, ← inRng_of_sc sc_256 ha]; exact hx, by rw [h]; exact h3⟩
theorem widen_negneg (x : Nat) : widen (fv .f32 (Op.negFloat .f32 (Op.negFloat .f32 x))) = widen (fv .f32 x) := by
  have e : Op.negFloat .f32 (Op.negFloat .f32 x) = x := by
    unfold Op.negFloat
    first
      | (simp only [Nat.xor_assoc, Nat.xor_self, Nat.xor_zero])
      | (simp [Nat.xor_assoc])
  rw [e]
theorem read_one64 : double.read 4607182418800017408 = .number false 4503599627370496 (-52) := by decide +kernel
theorem one_over {b : Nat} (h : fv .f64 b ≠ none) : ∃ r, fop .quo .f64 (fv .f64 4607182418800017408) (fv .f64 b) = some r ∧ (double.read r).isNaN = false := by
  have hx : ∃ d, (double.read 4607182418800017408).quotient (double.fractionBits + 2) (double.read b) = some d := by
    rw [read_one64]
    cases hb : double.read b with
    | nan s t => exact absurd (fv_none.2 (by show (double.read b).isNaN = true; rw [hb]; rfl)) h
    | infinity s => exact ⟨_, rfl⟩
    | number s m p =>
      unfold Datum.quotient
      dsimp only
      split
      · exact ⟨_, rfl⟩
      · exact ⟨_, rfl⟩
  obtain ⟨d, hd⟩ := hx
  rw [← floatBits_fv]
  cases hq : floatBits .quo .f64 4607182418800017408 b with
  | some r => exact ⟨r, rfl, floatBits_notNaN (op := .quo) (k := .f64) hq⟩
  | none =>
    exfalso
    have : double.div 4607182418800017408 b = none := hq
    unfold Format.div at this
    first
      | (rw [hd] at this; cases this)
      | (simp [hd] at this)
theorem over_same (w1 w2 : World) {b : Nat} (h : fv .f64 b ≠ none) : FloatKind.f64.format.order (fbits w1 .quo .f64 4607182418800017408 b) (fbits w2 .quo .f64 4607182418800017408 b) = some .eq := by
  obtain ⟨r, h1, h2⟩ := one_over h
  rw [order_fv, fv_fbits, fv_fbits, h1]
  exact order_self (k := .f64) h2
end Go.Proofs.Ytbjllfnjecggfaa.Fl
