/- Walk: the law FnFixedParsed returns true. -/
import Derived.Test.YtpdpkgpjgockaaaDoorQe
import Derived.Test.YtpdpkgpjgockaaaDoorVh
import Derived.Test.YtpdpkgpjgockaaaDoorBg
namespace Go.Proofs.YtpdpkgpjgockaaaDoor
open Go.RowKit
theorem m50 : ffF (-50) = [45, 48, 46, 48, 53, 48] := by
  unfold ffF
  rw [if_pos (by omega), if_pos (by omega)]
  show 45 :: tens 50 = _
  unfold tens
  rw [show 50 / 1000 = 0 from rfl, dec_small (by omega)]
  rfl
theorem pf_m50 (w : World) (ht : Tab w) : Calls Tryd.prog 19 #[.string ⟨#[45, 48, 46, 48, 53, 48]⟩] w (PuPost w (-50, true)) := by
  have := pfI ⟨#[45, 48, 46, 48, 53, 48]⟩ w ht (by show 6 ≤ 1048576; omega)
  have e : (ByteArray.mk #[45, 48, 46, 48, 53, 48]).data.toList = [45, 48, 46, 48, 53, 48] := rfl
  rwa [e, pf_yes m50 (by simp)] at this
set_option maxRecDepth 100000 in
set_option maxHeartbeats 1000000 in
theorem lawFp_small (a : Option Addr) (n cap : Nat) (w : World) (ht : Tab w) (hB : By w.heap.size w a n) (hn : n ≤ 1048576) :
    Calls Tryd.prog 4 #[.slice a n cap] w fun e w' => e = .returned (.bool true) ∧ Below w.heap.size w w' := by
  have hk := drawPf a n cap w hB hn
  have HT := Lib.hid ht
  clear hB ht
  go_enter Tryd.func4, Tryd.ntmps4
  go_wp2_with fail
  refine (big_no a n cap w hn).mono ?_
  rintro e w0 ⟨rfl, rfl⟩
  go_wp2_with fail
  refine hk.mono ?_
  rintro e w1 ⟨s, rfl, hs, hb⟩
  have hp := fun w ht => pfI s w ht (by omega)
  by_cases hx : ∃ n, ffF n = s.data.toList ∧ s.data.toList ≠ []
  · obtain ⟨x, h1, h2⟩ := hx
    rw [pf_yes h1 h2] at hp
    have h0 : s.size ≠ 0 := by
      intro e; apply h2; exact List.eq_nil_of_length_eq_zero (by simpa using e)
    obtain ⟨n1, n2, n3⟩ := nonempty_facts h0
    have hq : ((⟨(ffF x).toArray⟩ : ByteArray).toList == s.toList) = true := by rw [str_eq, decide_eq_true h1]
    have hq2 : (ffF x == s.toList) = true := by rwa [ByteArray.toList_mk] at hq
    have HP := Lib.hid hp
    clear hp h1 h2 h0
    go_wp2_with fail
    refine (HP.out _ (HT.out.below hb)).mono ?_
    rintro e w2 ⟨rfl, hb2⟩
    have hbb : Below w.heap.size w w2 := hb.trans (hb2.mono hb.size)
    go_wp2_with fail
    refine (pf_m50 _ (HT.out.below hbb)).mono ?_
    rintro e w3 ⟨rfl, hb3⟩
    have hbc : Below w.heap.size w w3 := hbb.trans (hb3.mono hbb.size)
    go_wp2_with fail
    refine (ffI x _ (HT.out.below hbc)).mono ?_
    rintro e w4 ⟨rfl, hb4⟩
    go_wp2
    go_ret
    exact ⟨rfl, hbc.trans (hb4.mono hbc.size)⟩
  · rw [pf_no hx] at hp
    have HP := Lib.hid hp
    clear hp
    by_cases h0 : s.size = 0
    · have n1 : s.toList = [] := by rw [ByteArray.toList_eq]; exact List.eq_nil_of_length_eq_zero (by simpa using h0)
      clear h0 hx
      go_wp2_with fail
      refine (HP.out _ (HT.out.below hb)).mono ?_
      rintro e w2 ⟨rfl, hb2⟩
      have hbb : Below w.heap.size w w2 := hb.trans (hb2.mono hb.size)
      go_wp2_with fail
      refine (pf_m50 _ (HT.out.below hbb)).mono ?_
      rintro e w3 ⟨rfl, hb3⟩
      have hbc : Below w.heap.size w w3 := hbb.trans (hb3.mono hbb.size)
      go_wp2
      go_ret
      exact ⟨rfl, hbc⟩
    · obtain ⟨n1, n2, n3⟩ := nonempty_facts h0
      have hq := ne_of_no hx h0 0
      have hq2 : (ffF 0 == s.toList) = false := by rwa [ByteArray.toList_mk] at hq
      clear h0 hx
      go_wp2_with fail
      refine (HP.out _ (HT.out.below hb)).mono ?_
      rintro e w2 ⟨rfl, hb2⟩
      have hbb : Below w.heap.size w w2 := hb.trans (hb2.mono hb.size)
      go_wp2_with fail
      refine (pf_m50 _ (HT.out.below hbb)).mono ?_
      rintro e w3 ⟨rfl, hb3⟩
      have hbc : Below w.heap.size w w3 := hbb.trans (hb3.mono hbb.size)
      go_wp2_with fail
      refine (ffI 0 _ (HT.out.below hbc)).mono ?_
      rintro e w4 ⟨rfl, hb4⟩
      go_wp2
      go_ret
      exact ⟨rfl, hbc.trans (hb4.mono hbc.size)⟩
set_option maxRecDepth 100000 in
theorem lawFp_big (a : Option Addr) (n cap : Nat) (w : World) (hn : 1048576 < n) :
    Calls Tryd.prog 4 #[.slice a n cap] w fun e w' => e = .returned (.bool true) ∧ Below w.heap.size w w' := by
  go_enter Tryd.func4, Tryd.ntmps4
  go_wp2_with fail
  refine (big_yes a n cap w hn).mono ?_
  rintro e w1 ⟨rfl, rfl⟩
  go_wp2_with fail
  go_ret
  exact ⟨rfl, Below.refl _ _⟩
theorem lawFp (w : World) (ht : Tab w) (a : Option Addr) (n cap : Nat) (_z : Nat) (hB : By w.heap.size w a n) :
    Calls Tryd.prog 4 #[.slice a n cap] w fun e w' => e = .returned (.bool true) ∧ Below w.heap.size w w' := by
  by_cases h : 1048576 < n
  · exact lawFp_big a n cap w h
  · exact lawFp_small a n cap w ht hB (by omega)
end Go.Proofs.YtpdpkgpjgockaaaDoor
