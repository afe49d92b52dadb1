/- Walk: the law FnFixedText returns true. -/
import Derived.Test.YtpdpkgpjgockaaaDoorQe
import Derived.Test.YtpdpkgpjgockaaaDoorVd
import Derived.Test.YtpdpkgpjgockaaaDoorBg
namespace Go.Proofs.YtpdpkgpjgockaaaDoor
open Go.RowKit
theorem fx_list (l : List UInt8) : (ByteArray.mk l.toArray).data.toList = l := rfl
theorem fx_size (l : List UInt8) : (ByteArray.mk l.toArray).size = l.length := rfl
theorem fx_some {l : List UInt8} (h : l ≠ []) : (ByteArray.mk l.toArray).toList.isEmpty = false ∧ ((ByteArray.mk l.toArray).toList == []) = false ∧ ¬ (ByteArray.mk l.toArray).toList = [] := by
  rw [ByteArray.toList_mk]
  cases l with
  | nil => exact absurd rfl h
  | cons c l => exact ⟨rfl, rfl, by simp⟩
theorem ffF_short (n : Int) : (ffF n).length ≤ 1048576 := by
  by_cases h : -1000000000 ≤ n ∧ n ≤ 1000000000
  · unfold ffF
    rw [if_pos h]
    have := nDigits_le7 (u := n.natAbs / 1000) (by omega)
    split <;> simp [tens_len] <;> omega
  · rw [ffF_out h]; simp
set_option maxRecDepth 100000 in
set_option maxHeartbeats 1000000 in
theorem lawFx_small (a : Option Addr) (n cap : Nat) (w : World) (ht : Tab w) (hB : By w.heap.size w a n) (hn : n ≤ 1048576) :
    Calls Tryd.prog 10 #[.slice a n cap] w fun e w' => e = .returned (.bool true) ∧ Below w.heap.size w w' := by
  have hk := drawFixed a n cap w hB hn
  have HT := Lib.hid ht
  clear hB ht
  go_enter Tryd.func10, Tryd.ntmps10
  go_wp2_with fail
  refine (big_no a n cap w hn).mono ?_
  rintro e w0 ⟨rfl, rfl⟩
  go_wp2_with fail
  refine hk.mono ?_
  rintro e w1 ⟨m, rfl, m0, m1, hb⟩
  go_wp2_with fail
  refine (ffI m _ (HT.out.below hb)).mono ?_
  rintro e w2 ⟨rfl, hb2⟩
  have hbb : Below w.heap.size w w2 := hb.trans (hb2.mono hb.size)
  by_cases hin : -1000000000 ≤ m ∧ m ≤ 1000000000
  · obtain ⟨n1, n2, n3⟩ := fx_some (ffF_ne hin.1 hin.2)
    have hp : ∀ w, Tab w → Calls Tryd.prog 19 #[.string (ByteArray.mk (ffF m).toArray)] w (PuPost w (m, true)) := fun w ht => by
      have := pfI (ByteArray.mk (ffF m).toArray) w ht (by rw [fx_size]; exact ffF_short m)
      rwa [fx_list, pf_yes rfl (ffF_ne hin.1 hin.2)] at this
    obtain ⟨i0, i1⟩ := hin
    have HP := Lib.hid hp
    clear hp
    generalize ByteArray.mk (ffF m).toArray = t at *
    go_wp2_with fail
    refine (HP.out _ (HT.out.below hbb)).mono ?_
    rintro e w3 ⟨rfl, hb3⟩
    go_wp2
    go_ret
    exact ⟨rfl, hbb.trans (hb3.mono hbb.size)⟩
  · have he : ffF m = [] := ffF_out hin
    rw [he]
    have hp : ∀ w, Tab w → Calls Tryd.prog 19 #[.string (ByteArray.mk ([] : List UInt8).toArray)] w (PuPost w (0, false)) := fun w ht => by
      have := pfI (ByteArray.mk ([] : List UInt8).toArray) w ht (by rw [fx_size]; simp)
      rwa [fx_list, pf_no (fun ⟨_, _, h⟩ => h rfl)] at this
    have n1 : (ByteArray.mk ([] : List UInt8).toArray).toList = [] := ByteArray.toList_mk _
    have HP := Lib.hid hp
    clear hp he
    generalize ByteArray.mk ([] : List UInt8).toArray = t at *
    by_cases i0 : -1000000000 ≤ m
    · have i1 : 1000000000 < m := by omega
      clear hin
      go_wp2_with fail
      refine (HP.out _ (HT.out.below hbb)).mono ?_
      rintro e w3 ⟨rfl, hb3⟩
      go_wp2
      go_ret
      exact ⟨rfl, hbb.trans (hb3.mono hbb.size)⟩
    · have i1 : m < -1000000000 := by omega
      clear hin i0
      go_wp2_with fail
      refine (HP.out _ (HT.out.below hbb)).mono ?_
      rintro e w3 ⟨rfl, hb3⟩
      go_wp2
      go_ret
      exact ⟨rfl, hbb.trans (hb3.mono hbb.size)⟩
set_option maxRecDepth 100000 in
theorem lawFx_big (a : Option Addr) (n cap : Nat) (w : World) (hn : 1048576 < n) :
    Calls Tryd.prog 10 #[.slice a n cap] w fun e w' => e = .returned (.bool true) ∧ Below w.heap.size w w' := by
  go_enter Tryd.func10, Tryd.ntmps10
  go_wp2_with fail
  refine (big_yes a n cap w hn).mono ?_
  rintro e w1 ⟨rfl, rfl⟩
  go_wp2_with fail
  go_ret
  exact ⟨rfl, Below.refl _ _⟩
theorem lawFx (w : World) (ht : Tab w) (a : Option Addr) (n cap : Nat) (_z : Nat) (hB : By w.heap.size w a n) :
    Calls Tryd.prog 10 #[.slice a n cap] w fun e w' => e = .returned (.bool true) ∧ Below w.heap.size w w' := by
  by_cases h : 1048576 < n
  · exact lawFx_big a n cap w h
  · exact lawFx_small a n cap w ht hB (by omega)
end Go.Proofs.YtpdpkgpjgockaaaDoor
