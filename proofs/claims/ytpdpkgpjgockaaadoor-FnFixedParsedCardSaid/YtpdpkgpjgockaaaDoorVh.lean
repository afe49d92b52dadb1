/- Walks: the draw of a text of thousandths. -/
import Derived.Test.YtpdpkgpjgockaaaDoorVg
import Derived.Test.YtpdpkgpjgockaaaDoorFg
namespace Go.Proofs.YtpdpkgpjgockaaaDoor
open Go.RowKit
theorem ffF_le (n : Int) : (ffF n).length ≤ 12 := by
  by_cases h : -1000000000 ≤ n ∧ n ≤ 1000000000
  · unfold ffF
    rw [if_pos h]
    have := nDigits_le7 (u := n.natAbs / 1000) (by omega)
    split <;> simp [tens_len] <;> omega
  · rw [ffF_out h]; simp
set_option maxRecDepth 100000 in
set_option maxHeartbeats 1000000 in
theorem drawPf (a : Option Addr) (n cap : Nat) (w : World) (hB : By w.heap.size w a n) (hn : n ≤ 1048576) :
    Calls Tryd.prog 18 #[.slice a n cap] w (TxPost w 200) := by
  go_enter Tryd.func18, Tryd.ntmps18
  go_wp2_with fail
  refine (new_any w.heap.size a n cap w hB hn (Nat.le_refl _)).mono ?_
  rintro e w1 ⟨g, rfl, hc, hg1, hg2, hb1⟩
  have HC := Lib.hid hc
  clear hc
  go_wp2_with fail
  refine (below_any _ g a n cap _ _ HC.out (by omega) (by omega)).mono ?_
  rintro e w2 ⟨x, rfl, x0, x1, hc, ho⟩
  rw [if_neg (by omega)] at x1
  have HC2 := Lib.hid hc
  have hb2 : Below w.heap.size w w2 := hb1.trans (below_of_only ho hb1.size (fun k hk => by omega))
  clear hc ho HC
  go_wp2_with fail
  refine (ffS _ _).mono ?_
  rintro e w3 ⟨rfl, hb3⟩
  have HC3 := Lib.hid (HC2.out.below hb3 hb2.size)
  have hb33 : Below w.heap.size w w3 := hb2.trans (hb3.mono hb2.size)
  have hsz : ∀ x, (ByteArray.mk (ffF x).toArray).size ≤ 12 := fun x => ffF_le x
  have hsx := hsz (x - 2000000)
  clear hb3 HC2 hb2 hsz
  generalize ByteArray.mk (ffF (x - 2000000)).toArray = S at *
  go_wp2_with fail
  refine (below_any _ g a n cap _ _ HC3.out (by omega) (by omega)).mono ?_
  rintro e w4 ⟨y, rfl, y0, y1, hc, ho⟩
  rw [if_neg (by omega)] at y1
  have HC4 := Lib.hid hc
  have hb4 : Below w.heap.size w w4 := hb33.trans (below_of_only ho hb33.size (fun k hk => by omega))
  clear hc ho HC3
  have hy : y = 0 ∨ y = 1 ∨ y = 2 ∨ 3 ≤ y := by omega
  rcases hy with rfl | rfl | rfl | hy
  · go_wp2_with fail
    have hlt := HC4.out.lt
    refine (pickS_any _ g a n cap w4.heap.size 16 _ (HC4.out.alloc hlt _) (by omega) (by omega) (by omega) (cells_strs w4 [⟨#[]⟩, ⟨#[45]⟩, ⟨#[48, 46, 48, 48]⟩, ⟨#[48, 46, 48, 48, 48, 48]⟩, ⟨#[45, 48, 46, 48, 48, 48]⟩, ⟨#[48, 48, 46, 48, 48, 48]⟩, ⟨#[49, 48, 48, 48, 48, 48, 48, 46, 48, 48, 48]⟩, ⟨#[49, 48, 48, 48, 48, 48, 48, 46, 48, 48, 49]⟩, ⟨#[45, 49, 48, 48, 48, 48, 48, 48, 46, 48, 48, 48]⟩, ⟨#[57, 57, 57, 57, 57, 57, 57, 46, 57, 57, 57]⟩, ⟨#[57, 57, 57, 57, 57, 57, 57, 57, 46, 57, 57, 57]⟩, ⟨#[49, 44, 48, 48, 48]⟩, ⟨#[43, 49, 46, 48, 48, 48]⟩, ⟨#[46, 53, 48, 48]⟩, ⟨#[48, 46, 53, 97, 48]⟩, ⟨#[49, 46, 48, 48, 48, 32]⟩] 9 (by decide))).mono ?_
    rintro e w5 ⟨s, rfl, hs, hc, ho⟩
    have hb5 : Below w.heap.size w w5 := (hb4.alloc hb4.size _).trans (below_of_only ho (by have := hb4.size; simp; omega) (fun k hk => by omega))
    clear hc ho
    go_wp2
    go_ret
    exact ⟨s, rfl, by omega, hb5⟩
  · go_wp2
    go_ret
    exact ⟨_, rfl, by rw [ByteArray.size_append]; show S.size + 1 ≤ _; omega, hb4⟩
  · go_wp2
    go_ret
    exact ⟨_, rfl, by rw [ByteArray.size_append]; show 1 + S.size ≤ _; omega, hb4⟩
  · have d0 : y ≠ 0 := by omega
    have d1 : y ≠ 1 := by omega
    have d2 : y ≠ 2 := by omega
    go_wp2
    go_ret
    exact ⟨_, rfl, by omega, hb4⟩
end Go.Proofs.YtpdpkgpjgockaaaDoor
