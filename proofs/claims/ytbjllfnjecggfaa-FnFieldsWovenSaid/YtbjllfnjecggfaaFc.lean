/- Laws of singles: turning a sign; the two ways to ask whether an amount is at most a limit. -/
import Derived.Test.YtbjllfnjecggfaaFb
namespace Go.Proofs.Ytbjllfnjecggfaa.Fl
open Ieee

theorem read_neg (k : FloatKind) (x : Nat) : k.format.read (Op.negFloat k x) = (k.format.read x).opposite := by
  have e1 : Op.negFloat k x % k.format.signWeight = x % k.format.signWeight := by
    unfold Op.negFloat Format.signWeight
    rw [Nat.xor_mod_two_pow, Nat.mod_self, Nat.xor_zero]
  have e2 : (Op.negFloat k x / k.format.signWeight % 2 == 1) = !(x / k.format.signWeight % 2 == 1) := by
    unfold Op.negFloat Format.signWeight
    rw [Nat.xor_div_two_pow, Nat.div_self (Nat.two_pow_pos _)]
    generalize x / 2 ^ (k.format.exponentBits + k.format.fractionBits) = y
    have h0 : (y ^^^ 1) % 2 = y % 2 ^^^ 1 := Nat.xor_mod_two_pow (a := y) (b := 1) (n := 1)
    have h : y % 2 = 0 ∨ y % 2 = 1 := by omega
    rw [h0]
    rcases h with h | h <;> rw [h] <;> rfl
  unfold Format.read
  simp only [e1, e2]
  split
  · rfl
  · split
    · rfl
    · split <;> rfl

theorem isNaN_neg (k : FloatKind) (x : Nat) : (k.format.read (Op.negFloat k x)).isNaN = (k.format.read x).isNaN := by rw [read_neg, opp_nan]
theorem sc_neg (k : FloatKind) {x : Nat} {a : Int} (h : sc k.format x = some a) : sc k.format (Op.negFloat k x) = some (-a) := by
  obtain ⟨s, m, p, e, _, rfl⟩ := sc_read h
  unfold sc
  rw [read_neg, e]
  cases s <;> simp [Datum.opposite, sg]
/-- the same number with its sign turned -/
def fneg (k : FloatKind) (o : Option Nat) : Option Nat := o.map (Op.negFloat k)
theorem fv_neg (k : FloatKind) (x : Nat) : fv k (Op.negFloat k x) = fneg k (fv k x) := by
  unfold fv fneg
  rw [isNaN_neg]
  split <;> rfl

theorem fv_xor (x : Nat) : fv .f32 (x ^^^ 2 ^ (FloatKind.f32.format.exponentBits + FloatKind.f32.format.fractionBits)) = fneg .f32 (fv .f32 x) := fv_neg .f32 x
/-- is a number at least -hi and at most hi? (as the reference asks) -/
def inRng (hi x : Nat) : Bool :=
  (FloatKind.f32.format.order x (Op.negFloat .f32 hi) == some .gt || FloatKind.f32.format.order x (Op.negFloat .f32 hi) == some .eq) && (FloatKind.f32.format.order x hi == some .lt || FloatKind.f32.format.order x hi == some .eq)
/-- an amount -/
def amt (x : Nat) : Nat := if FloatKind.f32.format.order x 0 == some .lt then Op.negFloat .f32 x else x

theorem sc_zero : sc single 0 = some 0 := by decide +kernel

theorem inRng_sc {hi x : Nat} {H : Int} (hh : sc single hi = some H) (h : inRng hi x = true) : ∃ a, sc single x = some a ∧ -H ≤ a ∧ a ≤ H := by
  have hn := sc_neg .f32 hh
  unfold inRng at h
  rw [Bool.and_eq_true, Bool.or_eq_true, Bool.or_eq_true] at h
  cases hd : single.read x with
  | nan s t =>
    have : FloatKind.f32.format.order x hi = none := order_nan_left (by show (single.read x).isNaN = true; rw [hd]; rfl)
    rw [this] at h; simp at h
  | infinity s =>
    obtain ⟨s1, m1, p1, e1, _, _⟩ := sc_read hh
    obtain ⟨s2, m2, p2, e2, _, _⟩ := sc_read hn
    have o1 : FloatKind.f32.format.order x hi = some (if s then .lt else .gt) := by
      show (single.read x).order (single.read hi) = _
      rw [hd, e1]; rfl
    have o2 : FloatKind.f32.format.order x (Op.negFloat .f32 hi) = some (if s then .lt else .gt) := by
      show (single.read x).order (single.read (Op.negFloat .f32 hi)) = _
      have e2' : single.read (Op.negFloat .f32 hi) = .number s2 m2 p2 := e2
      rw [hd, e2']; rfl
    rw [o1, o2] at h
    cases s <;> simp at h
  | number s m p =>
    have hx : sc single x = some (sg s (unitsOf single m p)) := by unfold sc; rw [hd]
    refine ⟨_, hx, ?_⟩
    have o1 : FloatKind.f32.format.order x hi = _ := order_sc hx hh
    have o2 : FloatKind.f32.format.order x (Op.negFloat .f32 hi) = _ := order_sc hx hn
    rw [o1, o2] at h
    simp only [beq_iff_eq, Option.some.injEq, Int.compare_eq_gt, Int.compare_eq_lt, Int.compare_eq_eq] at h
    omega

theorem inRng_of_sc {hi x : Nat} {H a : Int} (hh : sc single hi = some H) (hx : sc single x = some a) : inRng hi x = decide (-H ≤ a ∧ a ≤ H) := by
  have hn := sc_neg .f32 hh
  have o1 : FloatKind.f32.format.order x hi = _ := order_sc hx hh
  have o2 : FloatKind.f32.format.order x (Op.negFloat .f32 hi) = _ := order_sc hx hn
  unfold inRng
  rw [o1, o2, Bool.eq_iff_iff]
  simp only [Bool.and_eq_true, Bool.or_eq_true, beq_iff_eq, Option.some.injEq, Int.compare_eq_gt, Int.compare_eq_lt, Int.compare_eq_eq, decide_eq_true_eq]
  omega

theorem amt_rng {hi x : Nat} {H : Int} (hh : sc single hi = some H) :
    (FloatKind.f32.format.order (amt x) hi == some .lt || FloatKind.f32.format.order (amt x) hi == some .eq) = inRng hi x := by
  cases hd : single.read x with
  | nan s t =>
    have hx : (single.read x).isNaN = true := by rw [hd]; rfl
    have o0 : FloatKind.f32.format.order x 0 = none := order_nan_left hx
    have o1 : FloatKind.f32.format.order x hi = none := order_nan_left hx
    unfold amt inRng
    simp [o0, o1]
  | infinity s =>
    obtain ⟨s1, m1, p1, e1, _, _⟩ := sc_read hh
    obtain ⟨s2, m2, p2, e2, _, _⟩ := sc_read (sc_neg .f32 hh)
    have e2' : single.read (Op.negFloat .f32 hi) = .number s2 m2 p2 := e2
    have e0 : single.read 0 = .number false 0 single.leastPlace := by decide +kernel
    have o0 : FloatKind.f32.format.order x 0 = some (if s then .lt else .gt) := by
      show (single.read x).order (single.read 0) = _
      rw [hd, e0]; rfl
    have o1 : FloatKind.f32.format.order x hi = some (if s then .lt else .gt) := by
      show (single.read x).order (single.read hi) = _
      rw [hd, e1]; rfl
    have o2 : FloatKind.f32.format.order x (Op.negFloat .f32 hi) = some (if s then .lt else .gt) := by
      show (single.read x).order (single.read (Op.negFloat .f32 hi)) = _
      rw [hd, e2']; rfl
    have o3 : s = true → FloatKind.f32.format.order (Op.negFloat .f32 x) hi = some .gt := by
      intro hs
      show (single.read (Op.negFloat .f32 x)).order (single.read hi) = _
      have := read_neg .f32 x
      rw [show single.read (Op.negFloat .f32 x) = _ from this, show FloatKind.f32.format.read x = .infinity s from hd, e1, hs]; rfl
    unfold amt inRng
    cases s
    · simp [o0, o1]
    · simp [o0, o2, o3]
  | number s m p =>
    have hx : sc single x = some (sg s (unitsOf single m p)) := by unfold sc; rw [hd]
    rw [inRng_of_sc hh hx]
    have o0 : FloatKind.f32.format.order x 0 = _ := order_sc hx sc_zero
    unfold amt
    rw [o0]
    generalize sg s (unitsOf single m p) = a at *
    by_cases ha : a < 0
    · have e : (some (compare a 0) == some Ordering.lt) = true := by simp [Int.compare_eq_lt, ha]
      rw [if_pos e]
      have o1 : FloatKind.f32.format.order (Op.negFloat .f32 x) hi = _ := order_sc (sc_neg .f32 hx) hh
      rw [o1, Bool.eq_iff_iff]
      simp only [Bool.or_eq_true, beq_iff_eq, Option.some.injEq, Int.compare_eq_lt, Int.compare_eq_eq, decide_eq_true_eq]
      omega
    · have e : (some (compare a 0) == some Ordering.lt) = false := by simp [Int.compare_eq_lt]; omega
      rw [e]
      have o1 : FloatKind.f32.format.order x hi = _ := order_sc hx hh
      simp only [Bool.false_eq_true, if_false]
      rw [o1, Bool.eq_iff_iff]
      simp only [Bool.or_eq_true, beq_iff_eq, Option.some.injEq, Int.compare_eq_lt, Int.compare_eq_eq, decide_eq_true_eq]
      omega

theorem sc_1024 : sc single 1149239296 = some (2 ^ 159) := by decide +kernel
theorem sc_256 : sc single 1132462080 = some (2 ^ 157) := by decide +kernel
theorem neg_1024 : Op.negFloat .f32 1149239296 = 3296722944 := by decide +kernel
theorem neg_256 : Op.negFloat .f32 1132462080 = 3279945728 := by decide +kernel

end Go.Proofs.Ytbjllfnjecggfaa.Fl
