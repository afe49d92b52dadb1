/- Walk: the law FnNumbers returns true. -/
import Derived.Test.YtpdpkgpjgockaaaDoorPv
import Derived.Test.YtpdpkgpjgockaaaDoorVe
import Derived.Test.YtpdpkgpjgockaaaDoorBg
namespace Go.Proofs.YtpdpkgpjgockaaaDoor
open Go.RowKit
theorem mk_list (l : List UInt8) : (ByteArray.mk l.toArray).data.toList = l := rfl
theorem mk_size (l : List UInt8) : (ByteArray.mk l.toArray).size = l.length := rfl
theorem not_empty {l : List UInt8} (h : l ≠ []) : (ByteArray.mk l.toArray).toList.isEmpty = false ∧ ((ByteArray.mk l.toArray).toList == []) = false ∧ ¬ (ByteArray.mk l.toArray).toList = [] := by
  rw [ByteArray.toList_mk]
  cases l with
  | nil => exact absurd rfl h
  | cons c l => exact ⟨rfl, rfl, by simp⟩
set_option maxRecDepth 100000 in
set_option maxHeartbeats 1000000 in
theorem lawNumbers_small (a : Option Addr) (n cap : Nat) (w : World) (ht : Tab w) (hB : By w.heap.size w a n) (hn : n ≤ 1048576) :
    Calls Tryd.prog 9 #[.slice a n cap] w fun e w' => e = .returned (.bool true) ∧ Below w.heap.size w w' := by
  have hk := drawInt a n cap w hB hn
  have HT := Lib.hid ht
  clear hB ht
  go_enter Tryd.func9, Tryd.ntmps9
  go_wp2_with fail
  refine (big_no a n cap w hn).mono ?_
  rintro e w0 ⟨rfl, rfl⟩
  go_wp2_with fail
  refine hk.mono ?_
  rintro e w1 ⟨m, rfl, m0, m1, hb⟩
  go_wp2_with fail
  refine (fiI m m0 m1 _ (HT.out.below hb)).mono ?_
  rintro e w2 ⟨rfl, hb2⟩
  have hbb : Below w.heap.size w w2 := hb.trans (hb2.mono hb.size)
  obtain ⟨n1, n2, n3⟩ := not_empty (itoa_ne m)
  have hsz : (ByteArray.mk (Lib.itoa m).toArray).size ≤ 1048576 := by rw [mk_size]; have := Lib.itoa_length_le m m0 m1; omega
  by_cases hin : 0 ≤ m ∧ m ≤ 1000000000
  · have hp := fun w ht => puI (ByteArray.mk (Lib.itoa m).toArray) (m, true) (by rw [mk_list]; exact puF_in m hin.1 hin.2) w ht hsz
    obtain ⟨i0, i1⟩ := hin
    have HP := Lib.hid hp
    clear hp hsz
    generalize ByteArray.mk (Lib.itoa m).toArray = t at *
    go_wp2_with fail
    refine (HP.out _ (HT.out.below hbb)).mono ?_
    rintro e w3 ⟨rfl, hb3⟩
    go_wp2
    go_ret
    exact ⟨rfl, hbb.trans (hb3.mono hbb.size)⟩
  · have hp := fun w ht => puI (ByteArray.mk (Lib.itoa m).toArray) (0, false) (by rw [mk_list]; exact puF_out m hin) w ht hsz
    have HP := Lib.hid hp
    clear hp hsz
    generalize ByteArray.mk (Lib.itoa m).toArray = t at *
    by_cases i0 : 0 ≤ m
    · have i1 : 1000000000 < m := by omega
      clear hin
      go_wp2_with fail
      refine (HP.out _ (HT.out.below hbb)).mono ?_
      rintro e w3 ⟨rfl, hb3⟩
      go_wp2
      go_ret
      exact ⟨rfl, hbb.trans (hb3.mono hbb.size)⟩
    · have i1 : m < 0 := by omega
      clear hin i0
      go_wp2_with fail
      refine (HP.out _ (HT.out.below hbb)).mono ?_
      rintro e w3 ⟨rfl, hb3⟩
      go_wp2
      go_ret
      exact ⟨rfl, hbb.trans (hb3.mono hbb.size)⟩
set_option maxRecDepth 100000 in
theorem lawNumbers_big (a : Option Addr) (n cap : Nat) (w : World) (hn : 1048576 < n) :
    Calls Tryd.prog 9 #[.slice a n cap] w fun e w' => e = .returned (.bool true) ∧ Below w.heap.size w w' := by
  go_enter Tryd.func9, Tryd.ntmps9
  go_wp2_with fail
  refine (big_yes a n cap w hn).mono ?_
  rintro e w1 ⟨rfl, rfl⟩
  go_wp2_with fail
  go_ret
  exact ⟨rfl, Below.refl _ _⟩
theorem lawNumbers (w : World) (ht : Tab w) (a : Option Addr) (n cap : Nat) (_z : Nat) (hB : By w.heap.size w a n) :
    Calls Tryd.prog 9 #[.slice a n cap] w fun e w' => e = .returned (.bool true) ∧ Below w.heap.size w w' := by
  by_cases h : 1048576 < n
  · exact lawNumbers_big a n cap w h
  · exact lawNumbers_small a n cap w ht hB (by omega)
end Go.Proofs.YtpdpkgpjgockaaaDoor
