/- Walk: FormatInt at every number; the law FnExactFormatInt returns true. -/
import Derived.Test.YtpdpkgpjgockaaaDoorFi
import Derived.MakeChecks
import Derived.Stop.LaidErr
import Derived.Lib.LaidTab
namespace Go.Proofs.YtpdpkgpjgockaaaDoor
open Go.RowKit

/-- what the rows' condition gives: the table -/
theorem tab_of_laid {W : World} (h : laidMetH Tryd.prog [("math/bits.deBruijn32tab", Rows.laid_math_bits_deBruijn32tab), ("math/bits.deBruijn64tab", Rows.laid_math_bits_deBruijn64tab), ("internal/strconv.uint64pow10", Rows.laid_internal_strconv_uint64pow10)] W) : Tab W := by
  rw [MakeChecks.laidMetH_plain _ _ _ (by kernel_rfl)] at h
  have h2 := h.tail.tail
  exact Lib.tabIs_of_head (g := 1) (t := 81) (e := 71) (n := 20) (by kernel_rfl) (by kernel_rfl) Tryd.underlying81 Tryd.underlying71 (by kernel_rfl) (by kernel_rfl) h2
def FiPost (w : World) (n : Int) (e : Ending) (w' : World) : Prop := e = .returned (.string ⟨(Lib.itoa n).toArray⟩) ∧ Below w.heap.size w w'
theorem fiS_zero (w : World) : Calls Tryd.prog 25 #[.int .i64 0] w fun e w' => e = .returned (.string ⟨(Lib.itoa 0).toArray⟩) ∧ w = w' := by
  have h : (⟨(Lib.itoa 0).toArray⟩ : ByteArray) = ⟨#[48]⟩ := by rw [itoa_ge 0 (by omega), show (0 : Int).toNat = 0 from rfl, dec_small (by omega)]; rfl
  have H := Lib.hid h
  clear h
  go_enter Tryd.func25, Tryd.ntmps25
  go_wp2
  go_ret
  exact ⟨by rw [H.out]; rfl, rfl⟩
theorem fiS (n : Int) (h0 : -9223372036854775808 ≤ n) (h1 : n ≤ 9223372036854775807) (w : World) : Calls Tryd.prog 25 #[.int .i64 n] w (FiPost w n) := by
  rcases Int.lt_trichotomy n 0 with h | h | h
  · have := fiS_neg n.natAbs n (by omega) (by omega) (by omega) w
    rw [← itoa_lt n h] at this
    exact this
  · subst h
    exact (fiS_zero w).mono fun e w' ⟨he, hw⟩ => ⟨he, by rw [← hw]; exact Below.refl _ _⟩
  · have := fiS_pos n.toNat (by omega) (by omega) w
    rw [← itoa_ge n (by omega)] at this
    rw [show ((n.toNat : Nat) : Int) = n by omega] at this
    exact this
theorem wf_bounds {n : Int} (h : (Lit.int .i64 n).wf = true) : -9223372036854775808 ≤ n ∧ n ≤ 9223372036854775807 := by
  simp only [Lit.wf, IntKind.min, IntKind.max, IntKind.signed, IntKind.bits, Bool.and_eq_true, decide_eq_true_eq] at h
  simp at h; omega
set_option maxRecDepth 100000 in
set_option maxHeartbeats 1000000 in
theorem lawFi (w : World) (ht : Tab w) (n : Int) (hn : (Lit.int .i64 n).wf = true) :
    Calls Tryd.prog 6 #[.int .i64 n] w fun e w' => e = .returned (.bool true) ∧ Below w.heap.size w w' := by
  obtain ⟨h0, h1⟩ := wf_bounds hn
  have HT := Lib.hid ht
  have s1 := fiS n h0 h1
  have S1 := Lib.hid s1
  have s2 := fiI n h0 h1
  have S2 := Lib.hid s2
  clear ht hn h0 h1 s1 s2
  go_enter Tryd.func6, Tryd.ntmps6
  go_wp2_with fail
  refine (S1.out _).mono ?_
  rintro e w1 ⟨rfl, hb1⟩
  go_wp2_with fail
  refine (S2.out _ (HT.out.below hb1)).mono ?_
  rintro e w2 ⟨rfl, hb2⟩
  go_wp2
  go_ret
  exact ⟨rfl, hb1.trans (hb2.mono hb1.size)⟩
end Go.Proofs.YtpdpkgpjgockaaaDoor
