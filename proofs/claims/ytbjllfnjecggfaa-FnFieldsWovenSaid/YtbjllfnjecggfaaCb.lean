/- Walks: is a cell valid? is a row valid? the program's and the reference's. -/
import Derived.Test.YtbjllfnjecggfaaCa
namespace Go.Proofs.Ytbjllfnjecggfaa
open Go.RowKit

def inRF (o : Option Nat) : Bool := match o with | some x => Fl.inRng 1132462080 x | none => false
theorem inRF_fv (x : Nat) : inRF (Fl.fv .f32 x) = Fl.inRng 1132462080 x := by
  cases h : Fl.fv .f32 x with
  | some c => have := (Fl.fv_some.1 h).2; subst this; rfl
  | none =>
    have hn := Fl.fv_none.1 h
    have o1 : FloatKind.f32.format.order x 1132462080 = none := Fl.order_nan_left hn
    unfold inRF Fl.inRng
    simp [o1]
def cellOkF (c : FV) : Bool := inRF c.1 && (inRF c.2.1 && inRF c.2.2)
def rowOkF (l : List FV) : Bool := decide (1 ≤ l.length ∧ l.length ≤ 64) && l.all cellOkF

set_option maxHeartbeats 400000 in
theorem l02Fine_any (x : Nat) (q : Bool) (w : World) (h : Fl.inRng 1132462080 x = q) : Calls Try.prog 136 #[.float .f32 x] w fun e w' => e = .returned (.bool q) ∧ w = w' := by
  unfold Fl.inRng at h
  rw [Fl.neg_256] at h
  obtain ⟨q1, e1⟩ : ∃ q1, (FloatKind.f32.format.order x 3279945728 == some .gt || FloatKind.f32.format.order x 3279945728 == some .eq) = q1 := ⟨_, rfl⟩
  obtain ⟨q2, e2⟩ : ∃ q2, (FloatKind.f32.format.order x 1132462080 == some .lt || FloatKind.f32.format.order x 1132462080 == some .eq) = q2 := ⟨_, rfl⟩
  rw [e1, e2] at h
  cases q1 <;> cases q2 <;> simp only [Bool.false_and, Bool.and_false, Bool.true_and] at h <;> subst h
  all_goals
    go_enter Try.func136, Try.ntmps136
    go_wp2
    go_ret
    exact ⟨rfl, rfl⟩

set_option maxHeartbeats 400000 in
theorem l02Colour_any (a b : Nat) (q : Bool) (w : World) (h : (Fl.inRng 1132462080 a && Fl.inRng 1132462080 b) = q) : Calls Try.prog 137 #[.complex .f32 a b] w fun e w' => e = .returned (.bool q) ∧ w = w' := by
  obtain ⟨q1, e1⟩ : ∃ q1, Fl.inRng 1132462080 a = q1 := ⟨_, rfl⟩
  obtain ⟨q2, e2⟩ : ∃ q2, Fl.inRng 1132462080 b = q2 := ⟨_, rfl⟩
  rw [e1, e2] at h
  have H1 := Lib.hid e1
  have H2 := Lib.hid e2
  clear e1 e2
  cases q1 <;> cases q2 <;> simp only [Bool.false_and, Bool.and_false, Bool.true_and] at h <;> subst h
  all_goals
    go_enter Try.func137, Try.ntmps137
    go_wp2_with (go_at_call 136; refine (l02Fine_any _ _ _ (by first | exact H1.out | exact H2.out)).mono ?_; rintro e w' ⟨rfl, rfl⟩)
    go_ret
    exact ⟨rfl, rfl⟩

def cellB (c : CV) : Bool := Fl.inRng 1132462080 c.1 && (Fl.inRng 1132462080 c.2.1 && Fl.inRng 1132462080 c.2.2)
theorem cellB_F (c : CV) : cellOkF (fvc c) = cellB c := by unfold cellOkF cellB fvc; simp only [inRF_fv]

set_option maxRecDepth 100000 in
set_option maxHeartbeats 400000 in
theorem cellS_any (c : CV) (q : Bool) (w : World) (h : cellB c = q) : Calls Try.prog 107 #[aggC c] w fun e w' => e = .returned (.bool q) ∧ Below w.heap.size w w' := by
  obtain ⟨y, a, b⟩ := c
  unfold cellB at h
  obtain ⟨q1, e1⟩ : ∃ q1, Fl.inRng 1132462080 y = q1 := ⟨_, rfl⟩
  obtain ⟨q2, e2⟩ : ∃ q2, (Fl.inRng 1132462080 a && Fl.inRng 1132462080 b) = q2 := ⟨_, rfl⟩
  rw [e1, e2] at h
  have H1 := Lib.hid e1
  have H2 := Lib.hid e2
  clear e1 e2
  show Calls Try.prog 107 #[.agg #[.float .f32 y, .complex .f32 a b]] w _
  cases q1 <;> cases q2 <;> simp only [Bool.false_and, Bool.and_false, Bool.true_and] at h <;> subst h
  all_goals
    go_enter Try.func107, Try.ntmps107
    go_wp2_with (first | (go_at_call 136; refine (l02Fine_any _ _ _ H1.out).mono ?_; rintro e w' ⟨rfl, rfl⟩) | (go_at_call 137; refine (l02Colour_any _ _ _ _ H2.out).mono ?_; rintro e w' ⟨rfl, rfl⟩))
    go_ret
    exact ⟨rfl, (Below.refl _ _).alloc (Nat.le_refl _) _⟩

set_option maxRecDepth 100000 in
set_option maxHeartbeats 400000 in
theorem cellI_any (c : CV) (q : Bool) (w : World) (h : cellB c = q) : Calls Try.prog 132 #[aggC c] w fun e w' => e = .returned (.bool q) ∧ Below w.heap.size w w' := by
  obtain ⟨y, a, b⟩ := c
  unfold cellB at h
  have a1 := Fl.amt_rng (x := y) Fl.sc_256
  have a2 := Fl.amt_rng (x := a) Fl.sc_256
  have a3 := Fl.amt_rng (x := b) Fl.sc_256
  obtain ⟨q1, e1⟩ : ∃ q1, Fl.inRng 1132462080 y = q1 := ⟨_, rfl⟩
  obtain ⟨q2, e2⟩ : ∃ q2, Fl.inRng 1132462080 a = q2 := ⟨_, rfl⟩
  obtain ⟨q3, e3⟩ : ∃ q3, Fl.inRng 1132462080 b = q3 := ⟨_, rfl⟩
  dsimp only at h
  rw [e1, e2, e3] at h
  rw [e1] at a1
  rw [e2] at a2
  rw [e3] at a3
  clear e1 e2 e3
  show Calls Try.prog 132 #[.agg #[.float .f32 y, .complex .f32 a b]] w _
  cases q1 <;> cases q2 <;> cases q3 <;> simp only [Bool.false_and, Bool.and_false, Bool.true_and] at h <;> subst h
  all_goals
    go_enter Try.func132, Try.ntmps132
    go_wp2_with (go_at_call 126; refine (amount_any _ _).mono ?_; rintro e w' ⟨rfl, rfl⟩)
    go_ret
    exact ⟨rfl, (Below.refl _ _).alloc (Nat.le_refl _) _⟩

set_option maxRecDepth 100000 in
set_option maxHeartbeats 400000 in
theorem rowOk1_any (c : CV) (q : Bool) (w : World) (h : cellB c = q) : Calls Try.prog 131 #[aggC c] w fun e w' => e = .returned (.bool !q) ∧ Below w.heap.size w w' := by
  have HC := Lib.hid h
  clear h
  obtain ⟨y, a, b⟩ := c
  show Calls Try.prog 131 #[.agg #[.float .f32 y, .complex .f32 a b]] w _
  go_enter Try.func131, Try.ntmps131
  go_wp2_with (go_at_call 132; refine (cellI_any (y, a, b) _ _ HC.out).mono ?_; rintro e w1 ⟨rfl, hb⟩)
  go_ret
  exact ⟨rfl, ((Below.refl _ _).alloc (Nat.le_refl _) _).trans (hb.mono (by simp))⟩

end Go.Proofs.Ytbjllfnjecggfaa
