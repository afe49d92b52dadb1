/- Plain laws: samples of a row in sixteenths; what is decoded of them. -/
import Derived.Test.YtbjllfnjecggfaaGm
import Derived.Test.YtbjllfnjecggfaaGk
import Derived.Test.YtbjllfnjecggfaaCd
namespace Go.Proofs.Ytbjllfnjecggfaa
open Go.RowKit

abbrev At6 (x : Nat) (k : Int) : Prop := Fl.sc Ieee.single x = some (Fl.six k)
theorem At6.rng {x : Nat} {k : Int} (h : At6 x k) (hk : k.natAbs ≤ 4096) : Fl.inRng 1132462080 x = true := Fl.rng6 h hk
theorem fv_sm {x y : Nat} (hx : Fl.inRng 1132462080 x = true) (hy : Fl.inRng 1132462080 y = true) : Fl.fv .f32 (Fl.sm x y) = Fl.fop .add .f32 (Fl.fv .f32 x) (Fl.fv .f32 y) := by
  obtain ⟨p, _⟩ := Fl.hv_parts hx hy
  rw [← Fl.floatBits_fv, p]
  exact Fl.fv_some.2 ⟨Fl.floatBits_notNaN (op := .add) (k := .f32) p, rfl⟩
theorem sv_at {x : Nat} {k : Int} (h : At6 x k) : Fl.sv (Fl.fv .f32 x) = some (Fl.six k) := by rw [Fl.sv_fv]; exact h
theorem sv_sm {x y : Nat} {a b : Int} (hx : At6 x a) (hy : At6 y b) (ha : a.natAbs ≤ 1024) (hb : b.natAbs ≤ 1024) : Fl.sv (Fl.fv .f32 (Fl.sm x y)) = some (Fl.six (a + b)) := by
  rw [fv_sm (hx.rng (by omega)) (hy.rng (by omega))]
  exact Fl.sv6_add (sv_at hx) (sv_at hy) (by omega)
theorem At6.neg {x : Nat} {k : Int} (h : At6 x k) : At6 (Op.negFloat .f32 x) (-k) := by
  unfold At6
  rw [← Fl.six_neg]
  exact Fl.sc_neg .f32 h
theorem smp6 {c : CV} {y r i : Int} (h1 : At6 c.1 y) (h2 : At6 c.2.1 r) (h3 : At6 c.2.2 i) (b1 : y.natAbs ≤ 1024) (b2 : r.natAbs ≤ 512) (b3 : i.natAbs ≤ 512) :
    Fl.sv (Fl.fv .f32 (smp c 0)) = some (Fl.six (y + r)) ∧ Fl.sv (Fl.fv .f32 (smp c 1)) = some (Fl.six (y + -i)) ∧ Fl.sv (Fl.fv .f32 (smp c 2)) = some (Fl.six (y + -r)) ∧ Fl.sv (Fl.fv .f32 (smp c 3)) = some (Fl.six (y + i)) :=
  ⟨sv_sm h1 h2 b1 (by omega), sv_sm h1 h3.neg b1 (by omega), sv_sm h1 h2.neg b1 (by omega), sv_sm h1 h3 b1 (by omega)⟩
theorem dec6 {s t u v : Option Nat} {y r i : Int} (hs : Fl.sv s = some (Fl.six (y + r))) (ht : Fl.sv t = some (Fl.six (y + -i))) (hu : Fl.sv u = some (Fl.six (y + -r))) (hv : Fl.sv v = some (Fl.six (y + i))) (b1 : y.natAbs ≤ 1024) (b2 : r.natAbs ≤ 1024) (b3 : i.natAbs ≤ 1024) :
    Fl.sv (decv s t u v).1 = some (Fl.six y) ∧ Fl.sv (decv s t u v).2.1 = some (Fl.six r) ∧ Fl.sv (decv s t u v).2.2 = some (Fl.six i) := by
  unfold decv
  refine ⟨?_, ?_, ?_⟩
  · have h1 := Fl.sv6_add hs ht (by omega)
    have h2 := Fl.sv6_add h1 hu (by omega)
    have h3 := Fl.sv6_add h2 hv (by omega)
    refine Fl.sv6_quarter ?_ (by omega)
    rw [h3]
    congr 2
    omega
  · have h1 := Fl.sv6_sub hs hu (by omega)
    refine Fl.sv6_half ?_ (by omega)
    rw [h1]
    congr 2
    omega
  · have h1 := Fl.sv6_sub hv ht (by omega)
    refine Fl.sv6_half ?_ (by omega)
    rw [h1]
    congr 2
    omega
theorem encL_at (odd : Bool) : ∀ (l : List CV) (j : Nat), j < l.length → ∀ i, i < 4 → (encL l odd).getD (4 * j + i) 0 = smp (oddC odd (l.getD j c0)) i
  | [], j, h, i, hi => by simp at h
  | c :: l, j, h, i, hi => by
    have e : encL (c :: l) odd = encC (oddC odd c) ++ encL l odd := by unfold encL; rw [List.flatMap_cons]
    rw [e]
    cases j with
    | zero =>
      match i with
      | 0 | 1 | 2 | 3 => rfl
      | i + 4 => omega
    | succ j =>
      have := encL_at odd l j (by simpa using h) i hi
      rw [show 4 * (j + 1) + i = (4 * j + i) + 4 by omega]
      exact this
theorem inRF6 {o : Option Nat} {k : Int} (h : Fl.sv o = some (Fl.six k)) (hk : k.natAbs ≤ 4096) : inRF o = true := by
  cases o with
  | none => cases h
  | some x => exact Fl.rng6 h hk
theorem plRow {l : List CV} (h : plL l) (h1 : 1 ≤ l.length) (h2 : l.length ≤ 64) : rowB l = true := by
  unfold rowB allC
  rw [decide_eq_true ⟨h1, h2⟩, Bool.true_and, List.all_eq_true]
  intro c hc
  obtain ⟨⟨y, b1, h1⟩, ⟨r, b2, h2⟩, ⟨i, b3, h3⟩⟩ := h c hc
  unfold cellB
  rw [Fl.rng6 h1 (by omega), Fl.rng6 h2 (by omega), Fl.rng6 h3 (by omega)]
  rfl
end Go.Proofs.Ytbjllfnjecggfaa
