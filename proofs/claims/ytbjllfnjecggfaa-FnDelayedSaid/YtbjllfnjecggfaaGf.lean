/- Plain laws of floats: half of a sum. -/
import Derived.Test.YtbjllfnjecggfaaGa
namespace Go.Proofs.Ytbjllfnjecggfaa.Fl
open Ieee

theorem read_two : single.read 1073741824 = .number false 8388608 (-22) := by decide +kernel
theorem sum_comm (a b : Datum) : a.sum b = b.sum a := by
  cases a with
  | nan s t => cases b <;> rfl
  | infinity s =>
    cases b with
    | nan s t => rfl
    | infinity t =>
      simp only [Datum.sum]
      by_cases h : s = t
      · subst h; rfl
      · rw [if_neg h, if_neg (fun e => h e.symm)]
    | number t n j => rfl
  | number s m i =>
    cases b with
    | nan s t => rfl
    | infinity t => rfl
    | number t n j =>
      simp only [Datum.sum]
      rw [Int.min_comm i j, Int.add_comm, Bool.and_comm s t]
theorem add_comm32 (x y : Nat) : floatBits .add .f32 x y = floatBits .add .f32 y x := by
  show single.add x y = single.add y x
  unfold Format.add
  rw [sum_comm]
theorem add_some {x y : Nat} (hx : inRng 1132462080 x = true) (hy : inRng 1132462080 y = true) : ∃ r, floatBits .add .f32 x y = some r := by
  obtain ⟨a, ha, _⟩ := inRng_sc sc_256 hx
  obtain ⟨b, hb, _⟩ := inRng_sc sc_256 hy
  obtain ⟨s, m, p, e1, _⟩ := sc_read ha
  obtain ⟨t, n, q, e2, _⟩ := sc_read hb
  show ∃ r, single.add x y = some r
  unfold Format.add
  rw [e1, e2]
  exact ⟨_, rfl⟩
theorem quo_two {x : Nat} (h : (single.read x).isNaN = false) : ∃ r, floatBits .quo .f32 x 1073741824 = some r := by
  show ∃ r, single.div x 1073741824 = some r
  unfold Format.div
  rw [read_two]
  cases e : single.read x with
  | nan s t => rw [e] at h; cases h
  | infinity s => exact ⟨_, rfl⟩
  | number s m p =>
    simp only [Datum.quotient]
    rw [if_neg (by decide)]
    exact ⟨_, rfl⟩
/-- half of a sum -/
def hv (x y : Nat) : Nat := (floatBits .quo .f32 ((floatBits .add .f32 x y).getD 0) 1073741824).getD 0
def sm (x y : Nat) : Nat := (floatBits .add .f32 x y).getD 0
theorem hv_parts {x y : Nat} (hx : inRng 1132462080 x = true) (hy : inRng 1132462080 y = true) : floatBits .add .f32 x y = some (sm x y) ∧ floatBits .quo .f32 (sm x y) 1073741824 = some (hv x y) := by
  obtain ⟨r, hr⟩ := add_some hx hy
  have e : sm x y = r := by unfold sm; rw [hr]; rfl
  obtain ⟨q, hq⟩ := quo_two (floatBits_notNaN (op := .add) (k := .f32) hr)
  refine ⟨by rw [e]; exact hr, ?_⟩
  unfold hv
  rw [hr, e]
  show _ = some ((floatBits .quo .f32 r 1073741824).getD 0)
  rw [hq]; rfl
theorem fbits_some {w : World} {op : BinOp} {k : FloatKind} {x y r : Nat} (h : floatBits op k x y = some r) : fbits w op k x y = r := by unfold fbits; rw [h]; rfl
theorem fcnt_some {op : BinOp} {k : FloatKind} {x y r : Nat} (h : floatBits op k x y = some r) : fcnt op k x y = 0 := by unfold fcnt; rw [h]; rfl
theorem hv_comm (x y : Nat) : hv x y = hv y x := by unfold hv; rw [add_comm32]
theorem oeq_self {x : Nat} (h : (single.read x).isNaN = false) : (FloatKind.f32.format.order x x == some .eq) = true := by rw [order_self (k := .f32) h]; rfl
theorem hv_notNaN {x y : Nat} (hx : inRng 1132462080 x = true) (hy : inRng 1132462080 y = true) : (single.read (hv x y)).isNaN = false := floatBits_notNaN (op := .quo) (k := .f32) (hv_parts hx hy).2
theorem rep_double {a : Int} {x : Nat} (hx : sc single x = some a) (h1 : a.natAbs ≤ 2 ^ 157) : Rep single (a + a).natAbs := by
  obtain ⟨q, j, e, hq, hj⟩ := sc_rep (by decide) hx
  by_cases h0 : q = 0
  · subst h0
    refine ⟨0, 0, ?_, by decide, by decide⟩
    rw [Nat.zero_mul] at e
    omega
  · have hj2 : j ≤ 157 := by
      have h2 : 2 ^ j ≤ 2 ^ 157 := Nat.le_trans (Nat.le_mul_of_pos_left _ (Nat.pos_of_ne_zero h0)) (by rw [← e]; exact h1)
      exact (Nat.pow_le_pow_iff_right (by decide)).1 h2
    refine ⟨q, j + 1, ?_, hq, ?_⟩
    · rw [Nat.pow_succ, ← Nat.mul_assoc, ← e]; omega
    · have : (2 ^ single.exponentBits - 3 : Nat) = 253 := by decide
      omega
theorem hv_self {x : Nat} (hx : inRng 1132462080 x = true) : (FloatKind.f32.format.order (hv x x) x == some .eq) = true := by
  obtain ⟨a, ha, h1, h2⟩ := inRng_sc sc_256 hx
  obtain ⟨p1, p2⟩ := hv_parts hx hx
  have hn : (single.read (sm x x)).isNaN = false := floatBits_notNaN (op := .add) (k := .f32) p1
  have hb : a.natAbs ≤ 2 ^ 157 := by
    have : ((2 : Int) ^ 157) = ((2 ^ 157 : Nat) : Int) := by decide
    rw [this] at h1 h2
    omega
  have s1 : sv (fop .add .f32 (fv .f32 x) (fv .f32 x)) = some (a + a) := sv_add (by rw [sv_fv]; exact ha) (by rw [sv_fv]; exact ha) (rep_double ha hb)
  rw [← floatBits_fv, p1] at s1
  have s2 : sv (fop .quo .f32 (some (sm x x)) (fv .f32 1073741824)) = some a := sv_half (by rw [s1]; congr 1; omega) (sc_rep (by decide) ha)
  have e : fv .f32 (sm x x) = some (sm x x) := fv_some.2 ⟨hn, rfl⟩
  rw [← e, ← floatBits_fv, p2] at s2
  exact eq_of_sc (x := hv x x) (y := x) (a := a) s2 ha
theorem inRng_neg' {x : Nat} (h : inRng 1132462080 x = true) : inRng 1132462080 (Op.negFloat .f32 x) = true := by
  obtain ⟨a, h1, h2, h3⟩ := inRng_sc sc_256 h
  rw [inRng_of_sc sc_256 (sc_neg .f32 h1), decide_eq_true_eq]
  omega
end Go.Proofs.Ytbjllfnjecggfaa.Fl
