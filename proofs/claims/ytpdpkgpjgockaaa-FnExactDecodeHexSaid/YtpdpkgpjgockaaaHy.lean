/- Walks: DecodeHex, the reference's. -/
import Derived.Test.YtpdpkgpjgockaaaHx
namespace Go.Proofs.Ytpdpkgpjgockaaa
open Go.RowKit

set_option maxHeartbeats 400000 in
theorem valS_any (z : Int) (w : World) (h0 : 0 ≤ z) (h1 : z < 256) : Calls Try.prog 23 #[.int .u8 z] w fun e w' => e = .returned (.int .i64 (hexV z)) ∧ w' = w := by
  have ea := @hexV_a z
  have eb := @hexV_b z
  have ec := @hexV_c z
  have EA := Lib.hid ea
  have EB := Lib.hid eb
  have EC := Lib.hid ec
  clear ea eb ec
  by_cases c1 : 48 ≤ z <;> by_cases c2 : z ≤ 57 <;> by_cases c3 : 97 ≤ z <;> by_cases c4 : z ≤ 102
  all_goals first | omega | skip
  all_goals
    go_enter Try.func23, Try.ntmps23
    go_wp2
    go_ret
    refine ⟨ret_i ?_, rfl⟩
    first
    | (rw [EA.out ⟨by omega, by omega⟩]; done)
    | (rw [EB.out (by omega) ⟨by omega, by omega⟩]; show (_ : Int) = _; omega)
    | (rw [EC.out (by omega) (by omega)]; done)
    | (rw [EA.out ⟨by omega, by omega⟩]; show (_ : Int) = _; omega)
theorem valS_to (z x : Int) (w : World) (h : Hid (hexV z = x)) (h0 : 0 ≤ z) (h1 : z < 256) : Calls Try.prog 23 #[.int .u8 z] w fun e w' => e = .returned (.int .i64 x) ∧ w = w' := by
  have := valS_any z w h0 h1
  rw [h.out] at this
  exact this.mono fun e w' ⟨he, hw⟩ => ⟨he, hw.symm⟩
set_option maxRecDepth 100000 in
set_option maxHeartbeats 1000000 in
theorem decS_yes (s t : ByteArray) (q : Bool) (w : World) (h2 : s.size % 2 = 0) (hs : s.size ≤ 40000) (hq : dok s.data.toList (s.size / 2) = q) (ht : (if q then ByteArray.mk (dout s.data.toList (s.size / 2)).toArray else ByteArray.empty) = t) :
    Calls Try.prog 14 #[.string s] w (EnP w t q) := by
  obtain ⟨n, hn⟩ : ∃ n, s.size / 2 = n := ⟨_, rfl⟩
  rw [hn] at hq ht
  have hsz : s.size = 2 * n := by omega
  have hn1 : 2 * n ≤ s.size := by omega
  have hn2 : s.size ≤ 2 * n := by omega
  have HQ := Lib.hid hq
  have HT := Lib.hid ht
  have e1 : ((s.size : Int) % 2 != 0) = false := by simp; omega
  have e2 : (s.size : Int) ≤ 40000 := by omega
  obtain ⟨i0, hi, hz0, hz1, hz2⟩ := info_parts info5
  clear hq ht hn hsz h2
  go_enter Try.func14, Try.ntmps14
  go_wp2
  go_loopw [4, 5] (fun o i wr => ∃ j : Nat, j ≤ n ∧ i = .int .i64 (2 * (j : Int)) ∧ dok s.data.toList j = true ∧ Ob wr w.heap.size o (dout s.data.toList j) ∧ Below w.heap.size w wr) (fun _ i _ => s.size - (intOf i).toNat)
  case atStart => exact ⟨0, Nat.zero_le _, rfl, rfl, ob_nil w, (Below.refl _ _).alloc (Nat.le_refl _) _⟩
  case round =>
    obtain ⟨j, hj, rfl, hok, hown, hbw⟩ := hrel
    have HK := Lib.hid hok
    clear hok
    by_cases hlt : j < n
    · have c1 : 2 * j < s.size := by omega
      have c2 : 2 * j + 1 < s.size := by omega
      have HG : Hid (dgood s.data.toList j = (decide (0 ≤ hexV (s[2 * j].toNat : Int)) && decide (0 ≤ hexV (s[2 * j + 1].toNat : Int)))) := by
        refine Lib.hid ?_
        unfold dgood hv; rw [getD_size s _ c1, getD_size s _ c2]
      have HP : Hid (dpair s.data.toList j = UInt8.ofNat (16 * hexV (s[2 * j].toNat : Int) + hexV (s[2 * j + 1].toNat : Int)).toNat) := by
        refine Lib.hid ?_
        unfold dpair hv; rw [getD_size s _ c1, getD_size s _ c2]
      have z4 : 0 ≤ 2 * (j : Int) := by omega
      have z5 : 0 ≤ 2 * (j : Int) + 1 := by omega
      have i4 : 2 * (j : Int) < (s.size : Int) := by omega
      have i5 : 2 * (j : Int) + 1 < (s.size : Int) := by omega
      have t5 : (2 * (j : Int)).toNat = 2 * j := by omega
      have t6 : (2 * (j : Int) + 1).toNat = 2 * j + 1 := by omega
      have w6 : IntKind.i64.wrap (2 * (j : Int) + 1) = 2 * (j : Int) + 1 := by rw [IntKind.wrap_i64]; omega
      have b1 : s[2 * j].toNat < 256 := s[2 * j].toNat_lt
      have b2 : s[2 * j + 1].toNat < 256 := s[2 * j + 1].toNat_lt
      have hx := hexV_rng (s[2 * j].toNat : Int)
      have hy := hexV_rng (s[2 * j + 1].toNat : Int)
      obtain ⟨x, ex⟩ : ∃ x, hexV (s[2 * j].toNat : Int) = x := ⟨_, rfl⟩
      obtain ⟨y, ey⟩ : ∃ y, hexV (s[2 * j + 1].toNat : Int) = y := ⟨_, rfl⟩
      rw [ex, ey] at HG HP
      rw [ex] at hx
      rw [ey] at hy
      have X := Lib.hid ex
      have Y := Lib.hid ey
      clear ex ey
      go_wp2_with fail
      refine (valS_to _ x _ X (by omega) (by omega)).mono ?_
      rintro e w' ⟨rfl, rfl⟩
      go_wp2_with fail
      refine (valS_to _ y _ Y (by omega) (by omega)).mono ?_
      rintro e w' ⟨rfl, rfl⟩
      by_cases x0 : x < 0
      · have hf : dok s.data.toList n = false := dok_no hlt (by rw [HG.out, decide_eq_false (by omega)]; rfl)
        go_wp2
        go_ret2
        exact ⟨by rw [← HT.out, ← HQ.out, hf]; rfl, hbw⟩
      by_cases y0 : y < 0
      · have hf : dok s.data.toList n = false := dok_no hlt (by rw [HG.out, decide_eq_false (show ¬ 0 ≤ y by omega)]; simp)
        go_wp2
        go_ret2
        exact ⟨by rw [← HT.out, ← HQ.out, hf]; rfl, hbw⟩
      have hx0 : 0 ≤ x := by omega
      have hy0 : 0 ≤ y := by omega
      clear x0 y0
      have hbit : 16 * x + y = ((UInt8.ofNat (16 * x + y).toNat).toNat : Int) := by simp; omega
      have HBt := Lib.hid hbit
      have hD : dpair s.data.toList j = UInt8.ofNat (16 * x + y).toNat := HP.out
      have hL : (dout s.data.toList j).length ≤ 40000 := by rw [dout_len]; omega
      have HD := Lib.hid hD
      have hds := Lib.hid (dout_succ s.data.toList j)
      have hks := Lib.hid (dok_succ s.data.toList j)
      have hkk : dok s.data.toList (j + 1) = true := by rw [hks.out, HK.out, HG.out, decide_eq_true hx0, decide_eq_true hy0]; rfl
      have HKK := Lib.hid hkk
      have HLL := Lib.hid hL
      clear hbit hD hkk hL
      go_wp2_with (at_builtin; refine wpList_append_own _ rfl _ _ 28 rfl w.heap.size 5 i0 (.int .u8 0) 1 1 Try.underlying28 hi hz0 hz1 hz2 rfl (by decide) _ (dout s.data.toList j).length _ rfl (hown.alloc _) _ 1 1 [.int .u8 _] rfl rfl (byte_cells1 _ _ _) (by simp [Value.oneCell']) (by have := HLL.out; unfold maxLen; omega) (by have := HLL.out; omega) (by have := hbw.size; simp; omega) ?_; intro v' w1 hown1 hgrow1 _)
      have hb2 : Below w.heap.size w w1 := Below.grown (hbw.alloc hbw.size _) hgrow1 (by have := hbw.size; simp; omega) (fun k hk => (hown.lt k hk).1)
      go_wp2
      go_roundw
      case rel => exact ⟨j + 1, by omega, by go_num, HKK.out, by rw [hds.out, HD.out]; refine ob_snoc ?_; have e := hown1; rw [HBt.out] at e; exact e, hb2⟩
      case measure => simp [intOf]; omega
    · have hje : j = n := by omega
      subst hje
      have i4 : (s.size : Int) ≤ 2 * (j : Int) := by omega
      have hqt : q = true := by rw [← HQ.out]; exact HK.out
      subst hqt
      have hT : ByteArray.mk (dout s.data.toList j).toArray = t := HT.out
      have HT2 := Lib.hid hT
      clear hT
      have hst := hown.string
      rw [HT2.out] at hst
      go_wp2
      go_ret2
      exact ⟨rfl, hbw⟩
end Go.Proofs.Ytpdpkgpjgockaaa
