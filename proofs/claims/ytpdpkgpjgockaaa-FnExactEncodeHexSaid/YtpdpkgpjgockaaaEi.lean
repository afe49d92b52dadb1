/- Walk: the law FnExactEncodeHex returns true. -/
import Derived.Test.YtpdpkgpjgockaaaEh
namespace Go.Proofs.Ytpdpkgpjgockaaa
open Go.RowKit
set_option maxRecDepth 100000 in
theorem encS_no (s : ByteArray) (w : World) (hs : 20000 < s.size) :
    Calls Try.prog 10 #[.string s] w fun e w' => e = .returned (.tuple #[.string ByteArray.empty, .bool false]) ∧ w = w' := by
  go_enter Try.func10, Try.ntmps10
  go_wp2
  go_ret2
  exact ⟨rfl, rfl⟩
def EnPost (w : World) (t : ByteArray) (q : Bool) (e : Ending) (w' : World) : Prop := e = .returned (.tuple #[.string t, .bool q]) ∧ Below w.heap.size w w'
theorem enc_two (s : ByteArray) : ∃ t q, (∀ w, Calls Try.prog 10 #[.string s] w (EnPost w t q)) ∧ (∀ w, Calls Try.prog 11 #[.string s] w (EnPost w t q)) := by
  by_cases h : s.size ≤ 20000
  · exact ⟨_, _, fun w => encS_yes s w h, fun w => encI_yes s w h⟩
  · exact ⟨_, _, fun w => (encS_no s w (by omega)).mono fun e w' ⟨he, hw⟩ => ⟨he, by rw [← hw]; exact Below.refl _ _⟩, fun w => (encI_no s w (by omega)).mono fun e w' ⟨he, hw⟩ => ⟨he, by rw [← hw]; exact Below.refl _ _⟩⟩
set_option maxRecDepth 100000 in
set_option maxHeartbeats 1000000 in
theorem lawEnc (w : World) (s : ByteArray) (_hs : s.size ≤ maxLen) :
    Calls Try.prog 5 #[.string s] w fun e w' => e = .returned (.bool true) ∧ Below w.heap.size w w' := by
  by_cases h : 1048576 < s.size
  · go_enter Try.func5, Try.ntmps5
    go_wp2
    go_ret
    exact ⟨rfl, Below.refl _ _⟩
  · have h' : s.size ≤ 1048576 := by omega
    clear h _hs
    obtain ⟨t, q, h1, h2⟩ := enc_two s
    have H1 := Lib.hid h1
    have H2 := Lib.hid h2
    clear h1 h2
    go_enter Try.func5, Try.ntmps5
    go_wp2_with fail
    refine (H1.out _).mono ?_
    rintro e w1 ⟨rfl, hb1⟩
    go_wp2_with fail
    refine (H2.out _).mono ?_
    rintro e w2 ⟨rfl, hb2⟩
    go_wp2
    go_ret
    exact ⟨rfl, hb1.trans (hb2.mono hb1.size)⟩
end Go.Proofs.Ytpdpkgpjgockaaa
