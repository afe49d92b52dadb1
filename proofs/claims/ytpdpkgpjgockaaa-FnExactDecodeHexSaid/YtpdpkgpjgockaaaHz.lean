/- Walk: the law FnExactDecodeHex returns true. -/
import Derived.Test.YtpdpkgpjgockaaaHy
namespace Go.Proofs.Ytpdpkgpjgockaaa
open Go.RowKit
set_option maxRecDepth 100000 in
theorem decI_no (s : ByteArray) (w : World) (h : ¬ (s.size % 2 = 0 ∧ s.size ≤ 40000)) (hs : s.size ≤ 1048576) : Calls Try.prog 15 #[.string s] w (EnP w ByteArray.empty false) := by
  by_cases h2 : s.size % 2 = 0
  · have e1 : ((s.size : Int) % 2 != 0) = false := by simp; omega
    have e2 : 20000 < (s.size : Int) / 2 := by omega
    clear h h2
    go_enter Try.func15, Try.ntmps15
    go_wp2
    go_ret2
    exact ⟨rfl, Below.refl _ _⟩
  · have e1 : ((s.size : Int) % 2 != 0) = true := by rw [bne_iff_ne]; omega
    clear h h2
    go_enter Try.func15, Try.ntmps15
    go_wp2
    go_ret2
    exact ⟨rfl, Below.refl _ _⟩
set_option maxRecDepth 100000 in
theorem decS_no (s : ByteArray) (w : World) (h : ¬ (s.size % 2 = 0 ∧ s.size ≤ 40000)) (hs : s.size ≤ 1048576) : Calls Try.prog 14 #[.string s] w (EnP w ByteArray.empty false) := by
  by_cases h2 : s.size ≤ 40000
  · have e1 : ((s.size : Int) % 2 != 0) = true := by rw [bne_iff_ne]; omega
    have e2 : (s.size : Int) ≤ 40000 := by omega
    clear h h2
    go_enter Try.func14, Try.ntmps14
    go_wp2
    go_ret2
    exact ⟨rfl, Below.refl _ _⟩
  · have e2 : 40000 < (s.size : Int) := by omega
    clear h h2
    go_enter Try.func14, Try.ntmps14
    go_wp2
    go_ret2
    exact ⟨rfl, Below.refl _ _⟩
theorem dec_two (s : ByteArray) (hs : s.size ≤ 1048576) : ∃ t q, (∀ w, Calls Try.prog 14 #[.string s] w (EnP w t q)) ∧ (∀ w, Calls Try.prog 15 #[.string s] w (EnP w t q)) := by
  by_cases h : s.size % 2 = 0 ∧ s.size ≤ 40000
  · exact ⟨_, _, fun w => decS_yes s _ _ w h.1 h.2 rfl rfl, fun w => decI_yes s _ _ w h.1 h.2 rfl rfl⟩
  · exact ⟨_, _, fun w => decS_no s w h hs, fun w => decI_no s w h hs⟩
set_option maxRecDepth 100000 in
set_option maxHeartbeats 1000000 in
theorem lawDec (w : World) (s : ByteArray) (_hs : s.size ≤ maxLen) :
    Calls Try.prog 7 #[.string s] w fun e w' => e = .returned (.bool true) ∧ Below w.heap.size w w' := by
  by_cases h : 1048576 < s.size
  · go_enter Try.func7, Try.ntmps7
    go_wp2
    go_ret
    exact ⟨rfl, Below.refl _ _⟩
  · have h' : s.size ≤ 1048576 := by omega
    clear h _hs
    obtain ⟨t, q, h1, h2⟩ := dec_two s h'
    have H1 := Lib.hid h1
    have H2 := Lib.hid h2
    clear h1 h2
    go_enter Try.func7, Try.ntmps7
    go_wp2_with fail
    refine (H1.out _).mono ?_
    rintro e w1 ⟨rfl, hb1⟩
    go_wp2_with fail
    refine (H2.out _).mono ?_
    rintro e w2 ⟨rfl, hb2⟩
    go_wp2
    go_ret
    exact ⟨rfl, hb1.trans (hb2.mono hb1.size)⟩
end Go.Proofs.Ytpdpkgpjgockaaa
