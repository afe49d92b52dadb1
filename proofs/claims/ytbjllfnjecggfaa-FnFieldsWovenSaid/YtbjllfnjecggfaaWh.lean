/- Walks: PulseOf, BurstOf, CellsOf, the program's and the reference's. -/
import Derived.Test.YtbjllfnjecggfaaWg
namespace Go.Proofs.Ytbjllfnjecggfaa
open Go.RowKit

def lPulse (xs : List Nat) : List Nat := (xs.drop 0).take (8 - 0)
theorem lPulse_len (xs : List Nat) : (lPulse xs).length ≤ xs.length := by unfold lPulse; rw [List.length_take, List.length_drop]; omega

set_option maxHeartbeats 400000 in
theorem pulseI_yes (v : Value) (xs : List Nat) (w : World) (hR : Rf w v xs) (hlen : xs.length ≤ 1048576) (hb : lineB xs = true) :
    Calls Try.prog 44 #[v] w fun e w' => ∃ r, e = .returned r ∧ Of w' w.heap.size r (lPulse xs) ∧ Below w.heap.size w w' := by
  have HB := Lib.hid hb
  have hl := (lineB_len hb).1
  obtain ⟨a, c, rfl⟩ := hR.form
  clear hb
  go_enter Try.func44, Try.ntmps44
  go_wp2_with (first | (go_at_call 94; refine (partI_yes _ xs 0 (8) _ hR hlen HB.out (by omega) (by omega)).mono ?_; rintro e w1 ⟨r, rfl, hO, hb1⟩))
  go_ret
  exact ⟨_, rfl, hO, hb1⟩

set_option maxHeartbeats 400000 in
theorem pulseI_no (v : Value) (xs : List Nat) (w : World) (hR : Rf w v xs) (hlen : xs.length ≤ 1048576) (hb : lineB xs = false) :
    Calls Try.prog 44 #[v] w fun e w' => ∃ r, e = .returned r ∧ Of w' w.heap.size r [] ∧ Below w.heap.size w w' := by
  have HB := Lib.hid hb
  obtain ⟨a, c, rfl⟩ := hR.form
  clear hb
  go_enter Try.func44, Try.ntmps44
  go_wp2_with (first | (go_at_call 94; refine (partI_no _ xs _ _ _ hR hlen HB.out).mono ?_; rintro e w1 ⟨r, rfl, hO, hb1⟩))
  go_ret
  exact ⟨_, rfl, hO, hb1⟩

set_option maxHeartbeats 400000 in
theorem pulseS_yes (v : Value) (xs : List Nat) (w : World) (hR : Rf w v xs) (hlen : xs.length ≤ 1048576) (hb : lineB xs = true) :
    Calls Try.prog 43 #[v] w fun e w' => ∃ r, e = .returned r ∧ Of w' w.heap.size r (lPulse xs) ∧ Below w.heap.size w w' := by
  have HB := Lib.hid hb
  have hl := (lineB_len hb).1
  obtain ⟨a, c, rfl⟩ := hR.form
  clear hb
  go_enter Try.func43, Try.ntmps43
  go_wp2_with (first | (go_at_call 93; refine (partS_yes _ xs 0 (8) _ hR hlen HB.out (by omega) (by omega)).mono ?_; rintro e w1 ⟨r, rfl, hO, hb1⟩) | (go_at_call 84; go_in))
  go_ret
  exact ⟨_, rfl, hO, hb1⟩

set_option maxHeartbeats 400000 in
theorem pulseS_no (v : Value) (xs : List Nat) (w : World) (hR : Rf w v xs) (hlen : xs.length ≤ 1048576) (hb : lineB xs = false) :
    Calls Try.prog 43 #[v] w fun e w' => ∃ r, e = .returned r ∧ Of w' w.heap.size r [] ∧ Below w.heap.size w w' := by
  have HB := Lib.hid hb
  obtain ⟨a, c, rfl⟩ := hR.form
  clear hb
  go_enter Try.func43, Try.ntmps43
  go_wp2_with (first | (go_at_call 93; refine (partS_no _ xs _ _ _ hR hlen HB.out).mono ?_; rintro e w1 ⟨r, rfl, hO, hb1⟩) | (go_at_call 84; go_in))
  go_ret
  exact ⟨_, rfl, hO, hb1⟩
def lBurst (xs : List Nat) : List Nat := (xs.drop 8).take (24 - 8)
theorem lBurst_len (xs : List Nat) : (lBurst xs).length ≤ xs.length := by unfold lBurst; rw [List.length_take, List.length_drop]; omega

set_option maxHeartbeats 400000 in
theorem burstI_yes (v : Value) (xs : List Nat) (w : World) (hR : Rf w v xs) (hlen : xs.length ≤ 1048576) (hb : lineB xs = true) :
    Calls Try.prog 40 #[v] w fun e w' => ∃ r, e = .returned r ∧ Of w' w.heap.size r (lBurst xs) ∧ Below w.heap.size w w' := by
  have HB := Lib.hid hb
  have hl := (lineB_len hb).1
  obtain ⟨a, c, rfl⟩ := hR.form
  clear hb
  go_enter Try.func40, Try.ntmps40
  go_wp2_with (first | (go_at_call 94; refine (partI_yes _ xs 8 (24) _ hR hlen HB.out (by omega) (by omega)).mono ?_; rintro e w1 ⟨r, rfl, hO, hb1⟩))
  go_ret
  exact ⟨_, rfl, hO, hb1⟩

set_option maxHeartbeats 400000 in
theorem burstI_no (v : Value) (xs : List Nat) (w : World) (hR : Rf w v xs) (hlen : xs.length ≤ 1048576) (hb : lineB xs = false) :
    Calls Try.prog 40 #[v] w fun e w' => ∃ r, e = .returned r ∧ Of w' w.heap.size r [] ∧ Below w.heap.size w w' := by
  have HB := Lib.hid hb
  obtain ⟨a, c, rfl⟩ := hR.form
  clear hb
  go_enter Try.func40, Try.ntmps40
  go_wp2_with (first | (go_at_call 94; refine (partI_no _ xs _ _ _ hR hlen HB.out).mono ?_; rintro e w1 ⟨r, rfl, hO, hb1⟩))
  go_ret
  exact ⟨_, rfl, hO, hb1⟩

set_option maxHeartbeats 400000 in
theorem burstS_yes (v : Value) (xs : List Nat) (w : World) (hR : Rf w v xs) (hlen : xs.length ≤ 1048576) (hb : lineB xs = true) :
    Calls Try.prog 39 #[v] w fun e w' => ∃ r, e = .returned r ∧ Of w' w.heap.size r (lBurst xs) ∧ Below w.heap.size w w' := by
  have HB := Lib.hid hb
  have hl := (lineB_len hb).1
  obtain ⟨a, c, rfl⟩ := hR.form
  clear hb
  go_enter Try.func39, Try.ntmps39
  go_wp2_with (first | (go_at_call 93; refine (partS_yes _ xs 8 (24) _ hR hlen HB.out (by omega) (by omega)).mono ?_; rintro e w1 ⟨r, rfl, hO, hb1⟩) | (go_at_call 84; go_in))
  go_ret
  exact ⟨_, rfl, hO, hb1⟩

set_option maxHeartbeats 400000 in
theorem burstS_no (v : Value) (xs : List Nat) (w : World) (hR : Rf w v xs) (hlen : xs.length ≤ 1048576) (hb : lineB xs = false) :
    Calls Try.prog 39 #[v] w fun e w' => ∃ r, e = .returned r ∧ Of w' w.heap.size r [] ∧ Below w.heap.size w w' := by
  have HB := Lib.hid hb
  obtain ⟨a, c, rfl⟩ := hR.form
  clear hb
  go_enter Try.func39, Try.ntmps39
  go_wp2_with (first | (go_at_call 93; refine (partS_no _ xs _ _ _ hR hlen HB.out).mono ?_; rintro e w1 ⟨r, rfl, hO, hb1⟩) | (go_at_call 84; go_in))
  go_ret
  exact ⟨_, rfl, hO, hb1⟩
def lCells (xs : List Nat) : List Nat := (xs.drop 24).take (xs.length - 24)
theorem lCells_len (xs : List Nat) : (lCells xs).length ≤ xs.length := by unfold lCells; rw [List.length_take, List.length_drop]; omega

set_option maxHeartbeats 400000 in
theorem cellsI_yes (v : Value) (xs : List Nat) (w : World) (hR : Rf w v xs) (hlen : xs.length ≤ 1048576) (hb : lineB xs = true) :
    Calls Try.prog 42 #[v] w fun e w' => ∃ r, e = .returned r ∧ Of w' w.heap.size r (lCells xs) ∧ Below w.heap.size w w' := by
  have HB := Lib.hid hb
  have hl := (lineB_len hb).1
  obtain ⟨a, c, rfl⟩ := hR.form
  clear hb
  go_enter Try.func42, Try.ntmps42
  go_wp2_with (first | (go_at_call 94; refine (partI_yes _ xs 24 (xs.length) _ hR hlen HB.out (by omega) (by omega)).mono ?_; rintro e w1 ⟨r, rfl, hO, hb1⟩))
  go_ret
  exact ⟨_, rfl, hO, hb1⟩

set_option maxHeartbeats 400000 in
theorem cellsI_no (v : Value) (xs : List Nat) (w : World) (hR : Rf w v xs) (hlen : xs.length ≤ 1048576) (hb : lineB xs = false) :
    Calls Try.prog 42 #[v] w fun e w' => ∃ r, e = .returned r ∧ Of w' w.heap.size r [] ∧ Below w.heap.size w w' := by
  have HB := Lib.hid hb
  obtain ⟨a, c, rfl⟩ := hR.form
  clear hb
  go_enter Try.func42, Try.ntmps42
  go_wp2_with (first | (go_at_call 94; refine (partI_no _ xs _ _ _ hR hlen HB.out).mono ?_; rintro e w1 ⟨r, rfl, hO, hb1⟩))
  go_ret
  exact ⟨_, rfl, hO, hb1⟩

set_option maxHeartbeats 400000 in
theorem cellsS_yes (v : Value) (xs : List Nat) (w : World) (hR : Rf w v xs) (hlen : xs.length ≤ 1048576) (hb : lineB xs = true) :
    Calls Try.prog 41 #[v] w fun e w' => ∃ r, e = .returned r ∧ Of w' w.heap.size r (lCells xs) ∧ Below w.heap.size w w' := by
  have HB := Lib.hid hb
  have hl := (lineB_len hb).1
  obtain ⟨a, c, rfl⟩ := hR.form
  clear hb
  go_enter Try.func41, Try.ntmps41
  go_wp2_with (first | (go_at_call 93; refine (partS_yes _ xs 24 (xs.length) _ hR hlen HB.out (by omega) (by omega)).mono ?_; rintro e w1 ⟨r, rfl, hO, hb1⟩) | (go_at_call 84; go_in))
  go_ret
  exact ⟨_, rfl, hO, hb1⟩

set_option maxHeartbeats 400000 in
theorem cellsS_no (v : Value) (xs : List Nat) (w : World) (hR : Rf w v xs) (hlen : xs.length ≤ 1048576) (hb : lineB xs = false) :
    Calls Try.prog 41 #[v] w fun e w' => ∃ r, e = .returned r ∧ Of w' w.heap.size r [] ∧ Below w.heap.size w w' := by
  have HB := Lib.hid hb
  obtain ⟨a, c, rfl⟩ := hR.form
  clear hb
  go_enter Try.func41, Try.ntmps41
  go_wp2_with (first | (go_at_call 93; refine (partS_no _ xs _ _ _ hR hlen HB.out).mono ?_; rintro e w1 ⟨r, rfl, hO, hb1⟩) | (go_at_call 84; go_in))
  go_ret
  exact ⟨_, rfl, hO, hb1⟩

end Go.Proofs.Ytbjllfnjecggfaa
