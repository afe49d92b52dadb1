/- Walk: the law FnHexText returns true. -/
import Derived.Test.YtpdpkgpjgockaaaDoorHt
import Derived.Test.YtpdpkgpjgockaaaDoorFj
namespace Go.Proofs.YtpdpkgpjgockaaaDoor
open Go.RowKit
theorem ten_text : Lib.itoa 10 = [49, 48] := by
  rw [itoa_ge 10 (by omega), show (10 : Int).toNat = 10 from rfl, dec_big (by omega), dec_small (by omega)]; rfl
theorem hex_back (s : ByteArray) : ByteArray.mk (dout (ehF s.data.toList) ((ByteArray.mk (ehF s.data.toList).toArray).size / 2)).toArray = s ∧ dok (ehF s.data.toList) ((ByteArray.mk (ehF s.data.toList).toArray).size / 2) = true ∧ (ByteArray.mk (ehF s.data.toList).toArray).size = 2 * s.size := by
  have hl : s.data.toList.length = s.size := by simp
  have hz : (ByteArray.mk (ehF s.data.toList).toArray).size = 2 * s.size := by
    show (ehF s.data.toList).length = _
    rw [ehF_len, hl]
  have hh : 2 * s.size / 2 = s.data.toList.length := by omega
  rw [hz, hh, dout_eh, dok_eh]
  exact ⟨rfl, rfl, rfl⟩
theorem same_str (s : ByteArray) : (s.toList == s.toList) = true := by simp
set_option maxRecDepth 100000 in
set_option maxHeartbeats 1000000 in
theorem lawHx_small (a : Option Addr) (n cap : Nat) (w : World) (ht : Tab w) (hB : By w.heap.size w a n) (hn : n ≤ 1048576) :
    Calls Tryd.prog 3 #[.slice a n cap] w fun e w' => e = .returned (.bool true) ∧ Below w.heap.size w w' := by
  have hk := drawHex a n cap w hB hn
  have HT := Lib.hid ht
  clear hB ht
  go_enter Tryd.func3, Tryd.ntmps3
  go_wp2_with fail
  refine (big_no a n cap w hn).mono ?_
  rintro e w0 ⟨rfl, rfl⟩
  go_wp2_with fail
  refine hk.mono ?_
  rintro e w1 ⟨s, rfl, hs, hb⟩
  by_cases h2 : s.size ≤ 20000
  · have he := encI_yes s w1 h2
    obtain ⟨k1, k2, k3⟩ := hex_back s
    have hd : ∀ w, Calls Tryd.prog 17 #[.string (ByteArray.mk (ehF s.data.toList).toArray)] w (EnP w s true) := fun w => decI_yes _ s true w (by rw [k3]; omega) (by rw [k3]; omega) k2 (by rw [if_pos rfl]; exact k1)
    have HD := Lib.hid hd
    have HE := Lib.hid he
    have hq := same_str s
    clear hd k1 k2 he
    generalize ByteArray.mk (ehF s.data.toList).toArray = t at *
    have HK := Lib.hid k3
    have hk4 : ((t.size : Int) == 2 * (s.size : Int)) = true := by rw [k3]; simp
    clear k3
    go_wp2_with fail
    refine HE.out.mono ?_
    rintro e w2 ⟨rfl, hb2⟩
    have hbb : Below w.heap.size w w2 := hb.trans (hb2.mono hb.size)
    go_wp2_with fail
    refine (HD.out _).mono ?_
    rintro e w3 ⟨rfl, hb3⟩
    go_wp2
    go_ret
    exact ⟨rfl, hbb.trans (hb3.mono hbb.size)⟩
  · have h2' : 20000 < s.size := by omega
    have hten := ten_text
    clear h2
    go_wp2_with fail
    refine (encI_no s w1 h2').mono ?_
    rintro e w2 ⟨rfl, rfl⟩
    go_wp2_with fail
    refine (fiI 10 (by omega) (by omega) w1 (HT.out.below hb)).mono ?_
    rintro e w3 ⟨rfl, hb3⟩
    go_wp2
    go_ret
    exact ⟨rfl, hb.trans (hb3.mono hb.size)⟩
set_option maxRecDepth 100000 in
theorem lawHx_big (a : Option Addr) (n cap : Nat) (w : World) (hn : 1048576 < n) :
    Calls Tryd.prog 3 #[.slice a n cap] w fun e w' => e = .returned (.bool true) ∧ Below w.heap.size w w' := by
  go_enter Tryd.func3, Tryd.ntmps3
  go_wp2_with fail
  refine (big_yes a n cap w hn).mono ?_
  rintro e w1 ⟨rfl, rfl⟩
  go_wp2_with fail
  go_ret
  exact ⟨rfl, Below.refl _ _⟩
theorem lawHx (w : World) (ht : Tab w) (a : Option Addr) (n cap : Nat) (_z : Nat) (hB : By w.heap.size w a n) :
    Calls Tryd.prog 3 #[.slice a n cap] w fun e w' => e = .returned (.bool true) ∧ Below w.heap.size w w' := by
  by_cases h : 1048576 < n
  · exact lawHx_big a n cap w h
  · exact lawHx_small a n cap w ht hB (by omega)
end Go.Proofs.YtpdpkgpjgockaaaDoor
