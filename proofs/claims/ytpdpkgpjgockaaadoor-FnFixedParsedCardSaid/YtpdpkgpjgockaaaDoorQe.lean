/- Walk: the law FnExactParseFixed returns true. -/
import Derived.Test.YtpdpkgpjgockaaaDoorQd
namespace Go.Proofs.YtpdpkgpjgockaaaDoor
open Go.RowKit
theorem pfI (s : ByteArray) (w : World) (ht : Tab w) (hs : s.size ≤ 1048576) : Calls Tryd.prog 19 #[.string s] w (PuPost w (pfF s.data.toList)) := by
  by_cases hx : ∃ n, ffF n = s.data.toList ∧ s.data.toList ≠ []
  · obtain ⟨n, h1, h2⟩ := hx
    have hb := ffF_in (n := n) (by rw [h1]; exact h2)
    rw [pf_yes h1 h2]
    by_cases h0 : n < 0
    · obtain ⟨N, rfl⟩ : ∃ N : Nat, n = -(N : Int) := ⟨n.natAbs, by omega⟩
      exact pfI_neg s N (by omega) (by omega) h1 w ht hs
    · obtain ⟨N, rfl⟩ : ∃ N : Nat, n = (N : Int) := ⟨n.natAbs, by omega⟩
      exact pfI_pos s N (by omega) h1 w ht hs
  · rw [pf_no hx]; exact pfI_no s hx w ht hs
theorem pfS (s : ByteArray) (w : World) (hs : s.size ≤ 1048576) : Calls Tryd.prog 34 #[.string s] w (PuPost w (pfF s.data.toList)) := by
  by_cases hx : ∃ n, ffF n = s.data.toList ∧ s.data.toList ≠ []
  · obtain ⟨n, h1, h2⟩ := hx
    have hb := ffF_in (n := n) (by rw [h1]; exact h2)
    rw [pf_yes h1 h2]
    by_cases h0 : n < 0
    · obtain ⟨N, rfl⟩ : ∃ N : Nat, n = -(N : Int) := ⟨n.natAbs, by omega⟩
      exact pfS_neg s N (by omega) (by omega) h1 w hs
    · obtain ⟨N, rfl⟩ : ∃ N : Nat, n = (N : Int) := ⟨n.natAbs, by omega⟩
      exact pfS_pos s N (by omega) h1 w hs
  · rw [pf_no hx]; exact pfS_no s hx w hs
set_option maxRecDepth 100000 in
set_option maxHeartbeats 1000000 in
theorem lawPf (w : World) (ht : Tab w) (s : ByteArray) (_hs : s.size ≤ maxLen) :
    Calls Tryd.prog 12 #[.string s] w fun e w' => e = .returned (.bool true) ∧ Below w.heap.size w w' := by
  by_cases h : 1048576 < s.size
  · clear ht
    go_enter Tryd.func12, Tryd.ntmps12
    go_wp2
    go_ret
    exact ⟨rfl, Below.refl _ _⟩
  · have h' : s.size ≤ 1048576 := by omega
    clear h _hs
    have h1 := fun w => pfS s w h'
    have h2 := fun w ht => pfI s w ht h'
    generalize pfF s.data.toList = r at h1 h2
    have H1 := Lib.hid h1
    have H2 := Lib.hid h2
    have HT := Lib.hid ht
    clear ht h1 h2
    obtain ⟨x, q⟩ := r
    go_enter Tryd.func12, Tryd.ntmps12
    go_wp2_with fail
    refine (H1.out _).mono ?_
    rintro e w1 ⟨rfl, hb1⟩
    go_wp2_with fail
    refine (H2.out _ (HT.out.below hb1)).mono ?_
    rintro e w2 ⟨rfl, hb2⟩
    go_wp2
    go_ret
    exact ⟨rfl, hb1.trans (hb2.mono hb1.size)⟩
end Go.Proofs.YtpdpkgpjgockaaaDoor
