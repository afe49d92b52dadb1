/- Walks: conjugates; a cell out of four samples. -/
import Derived.Test.YtbjllfnjecggfaaMc
namespace Go.Proofs.Ytbjllfnjecggfaa
open Go.RowKit

set_option maxHeartbeats 400000 in
theorem conj_any (a b : Nat) (w : World) :
    Calls Try.prog 106 #[.complex .f32 a b] w fun e w' => e = .returned (.complex .f32 a (Op.negFloat .f32 b)) ∧ w = w' := by
  go_enter Try.func106, Try.ntmps106
  go_wp2
  go_ret
  exact ⟨rfl, rfl⟩
set_option maxHeartbeats 400000 in
theorem sconj_any (a b : Nat) (w : World) :
    Calls Try.prog 102 #[.complex .f32 a b] w fun e w' => e = .returned (.complex .f32 a (Op.negFloat .f32 b)) ∧ w = w' := by
  go_enter Try.func102, Try.ntmps102
  go_wp2
  go_ret
  exact ⟨rfl, rfl⟩

/-- the cell that four samples tell of -/
def decv (s t u v : Option Nat) : FV :=
  (Fl.fop .quo .f32 (Fl.fop .add .f32 (Fl.fop .add .f32 (Fl.fop .add .f32 s t) u) v) (Fl.fv .f32 1082130432),
   Fl.fop .quo .f32 (Fl.fop .sub .f32 s u) (Fl.fv .f32 1073741824), Fl.fop .quo .f32 (Fl.fop .sub .f32 v t) (Fl.fv .f32 1073741824))
def conjF (odd : Bool) (c : FV) : FV := if odd then (c.1, c.2.1, Fl.fneg .f32 c.2.2) else c

set_option maxRecDepth 100000 in
set_option maxHeartbeats 1000000 in
theorem take_any (b off len cap : Nat) (j : Nat) (s t u v : Nat) (w : World) (hj : j + 4 ≤ len) (hlen : len ≤ 1048576) (h1 : w.cell? ⟨b, off + j, none⟩ = some (.float .f32 s)) (h2 : w.cell? ⟨b, off + (j + 1), none⟩ = some (.float .f32 t))
    (h3 : w.cell? ⟨b, off + (j + 2), none⟩ = some (.float .f32 u)) (h4 : w.cell? ⟨b, off + (j + 3), none⟩ = some (.float .f32 v)) :
    Calls Try.prog 101 #[.slice (some ⟨b, off, none⟩) len cap, .int .i64 j] w fun e w' => ∃ c : CV, e = .returned (aggC c) ∧ fvc c = decv (Fl.fv .f32 s) (Fl.fv .f32 t) (Fl.fv .f32 u) (Fl.fv .f32 v) ∧ Below w.heap.size w w' := by
  have hb : b < w.heap.size := World.block_lt_of_cell? _ _ h1
  go_enter Try.func101, Try.ntmps101
  go_wp2
  refine bodyPost_ret (results_cellC rfl _ _ rfl (set2 (x := .float .f32 0) (y := .complex .f32 0 0) _ _ (by simp) (by simp)).1 (set2 (x := .float .f32 0) (y := .complex .f32 0 0) _ _ (by simp) (by simp)).2) rfl ⟨(_, _, _), rfl, ?_, ?_⟩
  · simp only [fvc, decv, Fl.fv_fbits]
  · repeat (first | exact Below.refl _ _ | refine below_drewN ?_ _ | refine Below.setCell ?_ (by simp) _ | refine Below.alloc ?_ (by simp) _)

set_option maxRecDepth 100000 in
set_option maxHeartbeats 1000000 in
theorem decoded_any (b off cap : Nat) (odd : Bool) (s t u v : Nat) (w : World) (h1 : w.cell? ⟨b, off, none⟩ = some (.float .f32 s)) (h2 : w.cell? ⟨b, off + 1, none⟩ = some (.float .f32 t))
    (h3 : w.cell? ⟨b, off + 2, none⟩ = some (.float .f32 u)) (h4 : w.cell? ⟨b, off + 3, none⟩ = some (.float .f32 v)) :
    Calls Try.prog 99 #[.slice (some ⟨b, off, none⟩) 4 cap, .bool odd] w fun e w' => ∃ c : CV, e = .returned (aggC c) ∧ fvc c = conjF odd (decv (Fl.fv .f32 s) (Fl.fv .f32 t) (Fl.fv .f32 u) (Fl.fv .f32 v)) ∧ Below w.heap.size w w' := by
  have hb : b < w.heap.size := World.block_lt_of_cell? _ _ h1
  cases odd
  · go_enter Try.func99, Try.ntmps99
    go_wp2
    go_quiet (fail)
    go_wp2
    refine bodyPost_ret (results_cellC rfl _ _ rfl (set2 (x := .float .f32 0) (y := .complex .f32 0 0) _ _ (by simp) (by simp)).1 (set2 (x := .float .f32 0) (y := .complex .f32 0 0) _ _ (by simp) (by simp)).2) rfl ⟨(_, _, _), rfl, ?_, ?_⟩
    · simp only [fvc, decv, conjF, Fl.fv_fbits]; rfl
    · repeat (first | exact Below.refl _ _ | refine below_drewN ?_ _ | refine Below.setCell ?_ (by simp) _ | refine Below.alloc ?_ (by simp) _)
  · go_enter Try.func99, Try.ntmps99
    go_wp2
    go_quiet (fail)
    go_wp2_with (go_at_call 106; refine (conj_any _ _ _).mono ?_; rintro e w' ⟨rfl, rfl⟩)
    refine bodyPost_ret (results_cellC rfl _ _ rfl (set2 (x := .float .f32 0) (y := .complex .f32 0 0) _ _ (by simp) (by simp)).1 (set2 (x := .float .f32 0) (y := .complex .f32 0 0) _ _ (by simp) (by simp)).2) rfl ⟨(_, _, _), rfl, ?_, ?_⟩
    · simp only [fvc, decv, conjF, Fl.fv_xor, Fl.fv_fbits]; rfl
    · repeat (first | exact Below.refl _ _ | refine below_drewN ?_ _ | refine Below.setCell ?_ (by simp) _ | refine Below.alloc ?_ (by simp) _)

end Go.Proofs.Ytbjllfnjecggfaa
