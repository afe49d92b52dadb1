/- Walks: DecodeHex, both. -/
import Derived.Test.YtpdpkgpjgockaaaDoorEh
namespace Go.Proofs.YtpdpkgpjgockaaaDoor
open Go.RowKit

def hexV (z : Int) : Int := if 48 ≤ z ∧ z ≤ 57 then z - 48 else if 97 ≤ z ∧ z ≤ 102 then z - 87 else -1
theorem hexV_rng (z : Int) : -1 ≤ hexV z ∧ hexV z ≤ 15 := by unfold hexV; split <;> (try split) <;> omega
theorem hexV_a {z : Int} (h : 48 ≤ z ∧ z ≤ 57) : hexV z = z - 48 := by unfold hexV; rw [if_pos h]
theorem hexV_b {z : Int} (h0 : ¬ (48 ≤ z ∧ z ≤ 57)) (h : 97 ≤ z ∧ z ≤ 102) : hexV z = z - 87 := by unfold hexV; rw [if_neg h0, if_pos h]
theorem hexV_c {z : Int} (h0 : ¬ (48 ≤ z ∧ z ≤ 57)) (h : ¬ (97 ≤ z ∧ z ≤ 102)) : hexV z = -1 := by unfold hexV; rw [if_neg h0, if_neg h]
theorem ret_i {a b : Int} (h : a = b) : Ending.returned (.int .i64 a) = .returned (.int .i64 b) := by rw [h]
set_option maxHeartbeats 400000 in
theorem valI_any (z : Int) (w : World) (h0 : 0 ≤ z) (h1 : z < 256) : Calls Tryd.prog 43 #[.int .u8 z] w fun e w' => e = .returned (.int .i64 (hexV z)) ∧ w' = w := by
  have ea := @hexV_a z
  have eb := @hexV_b z
  have ec := @hexV_c z
  have EA := Lib.hid ea
  have EB := Lib.hid eb
  have EC := Lib.hid ec
  clear ea eb ec
  by_cases c1 : 48 ≤ z <;> by_cases c2 : z ≤ 57 <;> by_cases c3 : 97 ≤ z <;> by_cases c4 : z ≤ 102
  all_goals first | omega | skip
  all_goals
    go_enter Tryd.func43, Tryd.ntmps43
    go_wp2
    go_ret
    refine ⟨ret_i ?_, rfl⟩
    first
    | (rw [EA.out ⟨by omega, by omega⟩]; done)
    | (rw [EB.out (by omega) ⟨by omega, by omega⟩]; show (_ : Int) = _; omega)
    | (rw [EC.out (by omega) (by omega)]; done)
    | (rw [EA.out ⟨by omega, by omega⟩]; show (_ : Int) = _; omega)
end Go.Proofs.YtpdpkgpjgockaaaDoor
