/- Plain laws of floats: what a single is worth, NaN's bits aside; exact sums, differences, quotients; sixteenths. -/
import Derived.Test.YtbjllfnjecggfaaFd
namespace Go.Proofs.Ytbjllfnjecggfaa.Fl
open Ieee

/-- what a single (NaN's bits forgotten) is worth, in units -/
def sv (o : Option Nat) : Option Int := o.bind (sc single)
theorem sv_fv (x : Nat) : sv (fv .f32 x) = sc single x := by
  unfold sv fv
  split
  · rename_i h
    unfold sc
    change (single.read x).isNaN = true at h
    cases hd : single.read x with
    | number s m p => rw [hd] at h; cases h
    | infinity s => rfl
    | nan s t => rfl
  · rfl
theorem sv_add {o p : Option Nat} {a b : Int} (ho : sv o = some a) (hp : sv p = some b) (hr : Rep single (a + b).natAbs) : sv (fop .add .f32 o p) = some (a + b) := by
  cases o with
  | none => cases ho
  | some x =>
    cases p with
    | none => cases hp
    | some y =>
      obtain ⟨r, h1, h2⟩ := add_exact (f := single) (by decide) (x := x) (y := y) ho hp hr
      show sv (floatBits .add .f32 x y) = _
      rw [show floatBits .add .f32 x y = single.add x y from rfl, h1]
      exact h2
theorem sv_sub {o p : Option Nat} {a b : Int} (ho : sv o = some a) (hp : sv p = some b) (hr : Rep single (a - b).natAbs) : sv (fop .sub .f32 o p) = some (a - b) := by
  cases o with
  | none => cases ho
  | some x =>
    cases p with
    | none => cases hp
    | some y =>
      obtain ⟨r, h1, h2⟩ := sub_exact (f := single) (by decide) (x := x) (y := y) ho hp hr
      show sv (floatBits .sub .f32 x y) = _
      rw [show floatBits .sub .f32 x y = single.sub x y from rfl, h1]
      exact h2
theorem sv_quo {o p : Option Nat} {a b v : Int} (ho : sv o = some a) (hp : sv p = some b) (hb : b ≠ 0) (hv : a * ((2 ^ 149 : Nat) : Int) = v * b) (hr : Rep single v.natAbs) : sv (fop .quo .f32 o p) = some v := by
  cases o with
  | none => cases ho
  | some x =>
    cases p with
    | none => cases hp
    | some y =>
      obtain ⟨r, h1, h2⟩ := div_exact (f := single) (by decide) (by decide) (x := x) (y := y) (v := v) ho hp hb hv hr
      show sv (floatBits .quo .f32 x y) = _
      rw [show floatBits .quo .f32 x y = single.div x y from rfl, h1]
      exact h2
theorem sv_neg {o : Option Nat} {a : Int} (ho : sv o = some a) : sv (fneg .f32 o) = some (-a) := by
  cases o with
  | none => cases ho
  | some x => exact sc_neg .f32 (x := x) ho

/-- k sixteenths, in units -/
def six (k : Int) : Int := k * ((2 ^ 145 : Nat) : Int)
theorem six_rep {k : Int} (h : k.natAbs < 2 ^ 24) : Rep single (six k).natAbs := by
  unfold six
  rw [Int.natAbs_mul, Int.natAbs_natCast]
  exact rep_small single _ 145 h (by decide)
theorem six_add (a b : Int) : six a + six b = six (a + b) := by unfold six; rw [Int.add_mul]
theorem six_sub (a b : Int) : six a - six b = six (a - b) := by unfold six; rw [Int.sub_mul]
theorem six_neg (a : Int) : -(six a) = six (-a) := by unfold six; rw [Int.neg_mul]
theorem six_inj {a b : Int} (h : six a = six b) : a = b := by
  unfold six at h
  exact Int.eq_of_mul_eq_mul_right (by decide) h

theorem sv6_add {o p : Option Nat} {a b : Int} (ho : sv o = some (six a)) (hp : sv p = some (six b)) (h : (a + b).natAbs < 2 ^ 24) : sv (fop .add .f32 o p) = some (six (a + b)) := by
  rw [← six_add]; exact sv_add ho hp (by rw [six_add]; exact six_rep h)
theorem sv6_sub {o p : Option Nat} {a b : Int} (ho : sv o = some (six a)) (hp : sv p = some (six b)) (h : (a - b).natAbs < 2 ^ 24) : sv (fop .sub .f32 o p) = some (six (a - b)) := by
  rw [← six_sub]; exact sv_sub ho hp (by rw [six_sub]; exact six_rep h)
theorem sv6_neg {o : Option Nat} {a : Int} (ho : sv o = some (six a)) : sv (fneg .f32 o) = some (six (-a)) := by
  rw [← six_neg]; exact sv_neg ho
theorem sc_two : sc single 1073741824 = some (2 * ((2 ^ 149 : Nat) : Int)) := by decide +kernel
theorem sc_four : sc single 1082130432 = some (4 * ((2 ^ 149 : Nat) : Int)) := by decide +kernel
theorem sc_sixteen : sc single 1098907648 = some (16 * ((2 ^ 149 : Nat) : Int)) := by decide +kernel
theorem mul_swap (v c P : Int) : c * v * P = v * (c * P) := by rw [Int.mul_comm c v, Int.mul_assoc]
theorem sv_half {o : Option Nat} {a : Int} (ho : sv o = some (2 * a)) (hr : Rep single a.natAbs) : sv (fop .quo .f32 o (fv .f32 1073741824)) = some a :=
  sv_quo ho (by rw [sv_fv]; exact sc_two) (by decide) (mul_swap a 2 _) hr
theorem sv6_half {o : Option Nat} {a : Int} (ho : sv o = some (six (2 * a))) (h : a.natAbs < 2 ^ 24) : sv (fop .quo .f32 o (fv .f32 1073741824)) = some (six a) := by
  refine sv_half ?_ (six_rep h)
  rw [ho]; unfold six; rw [Int.mul_assoc]
theorem sv6_quarter {o : Option Nat} {a : Int} (ho : sv o = some (six (4 * a))) (h : a.natAbs < 2 ^ 24) : sv (fop .quo .f32 o (fv .f32 1082130432)) = some (six a) := by
  refine sv_quo (a := 4 * six a) ?_ (by rw [sv_fv]; exact sc_four) (by decide) (mul_swap (six a) 4 _) (six_rep h)
  rw [ho]; unfold six; rw [Int.mul_assoc]

/-- a whole number as a single -/
theorem sc_int32 (n : Int) (h : n.natAbs < 2 ^ 24) : sc single (floatOfInt .f32 n) = some (n * ((2 ^ 149 : Nat) : Int)) := by
  have hr : Rep single (n.natAbs * 2 ^ 149) := rep_small single _ 149 h (by decide)
  obtain ⟨w1, w2⟩ := write_exact (f := single) (by decide) (s := decide (n < 0)) (m := n.natAbs) (p := 0) (v := n.natAbs * 2 ^ 149) (by rw [show ((0 : Int) - single.leastPlace).toNat = 149 by decide, show (single.leastPlace - 0).toNat = 0 by decide, Nat.pow_zero, Nat.mul_one]) hr
  have e1 : floatOfInt .f32 n = single.word (decide (n < 0)) (rungOf single (n.natAbs * 2 ^ 149)) := w1
  rw [e1, w2]
  congr 1
  generalize (2 ^ 149 : Nat) = V
  unfold sg
  by_cases hn : n < 0
  · simp only [hn, decide_true, if_true]
    rw [Int.natCast_mul, show ((n.natAbs : Nat) : Int) = -n by omega, Int.neg_mul, Int.neg_neg]
  · simp only [hn, decide_false]
    rw [if_neg (by simp), Int.natCast_mul, show ((n.natAbs : Nat) : Int) = n by omega]
/-- a whole number over sixteen -/
theorem sv6_int (n : Int) (h : n.natAbs < 2 ^ 24) : sv (fop .quo .f32 (fv .f32 (floatOfInt .f32 n)) (fv .f32 1098907648)) = some (six n) := by
  refine sv_quo (a := 16 * six n) ?_ (by rw [sv_fv]; exact sc_sixteen) (by decide) (mul_swap (six n) 16 _) (six_rep h)
  rw [sv_fv, sc_int32 n h]
  congr 1
  unfold six
  rw [Int.mul_comm 16, Int.mul_assoc]
  rfl
theorem six_256 : six 4096 = 2 ^ 157 := by decide
theorem six_le {a b : Int} (h : a ≤ b) : six a ≤ six b := by unfold six; exact Int.mul_le_mul_of_nonneg_right h (by decide)
theorem rng6 {x : Nat} {a : Int} (hx : sc single x = some (six a)) (h : a.natAbs ≤ 4096) : inRng 1132462080 x = true := by
  rw [inRng_of_sc sc_256 hx, decide_eq_true_eq, ← six_256, six_neg]
  exact ⟨six_le (by omega), six_le (by omega)⟩
theorem eq_of_sc {x y : Nat} {a : Int} (hx : sc single x = some a) (hy : sc single y = some a) : (FloatKind.f32.format.order x y == some .eq) = true := by
  have : FloatKind.f32.format.order x y = _ := order_sc (f := single) hx hy
  rw [this]; simp
theorem fv_sv {x : Nat} {o : Option Nat} {a : Int} (h : fv .f32 x = o) (ho : sv o = some a) : sc single x = some a := by rw [← sv_fv, h]; exact ho
end Go.Proofs.Ytbjllfnjecggfaa.Fl
