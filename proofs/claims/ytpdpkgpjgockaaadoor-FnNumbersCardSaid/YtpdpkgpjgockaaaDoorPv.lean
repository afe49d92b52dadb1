/- Walk: ParseUint of the reference; the law FnExactParseUint returns true. -/
import Derived.Test.YtpdpkgpjgockaaaDoorPu
namespace Go.Proofs.YtpdpkgpjgockaaaDoor
open Go.RowKit

set_option maxRecDepth 100000 in
set_option maxHeartbeats 1000000 in
theorem puS (s : ByteArray) (r : Int × Bool) (hr : puF s.data.toList = r) (w : World) (hs : s.size ≤ 1048576) : Calls Tryd.prog 27 #[.string s] w (PuPost w r) := by
  have HR := Lib.hid hr
  have hl : s.data.toList.length = s.size := by simp
  have HL := Lib.hid hl
  clear hr hl
  obtain ⟨x, q⟩ := r
  by_cases h10 : 10 < s.size
  · have he : (0, false) = (x, q) := by rw [← HR.out]; exact (puF_long (by rw [HL.out]; exact h10)).symm
    cases he
    go_enter Tryd.func27, Tryd.ntmps27
    go_wp2
    go_ret2
    exact ⟨rfl, Below.refl _ _⟩
  have h10' : s.size ≤ 10 := by omega
  have e10 : decide (10 < (s.size : Int)) = false := decide_eq_false (by omega)
  have HN : Hid (¬ 10 < s.data.toList.length) := Lib.hid (by rw [HL.out]; exact h10)
  clear h10
  go_enter Tryd.func27, Tryd.ntmps27
  go_wp2
  go_loop [4, 5] (fun n i => ∃ k : Nat, k ≤ s.size ∧ i = .int .i64 k ∧ n = .int .i64 (dval (s.data.toList.take k) : Nat) ∧ allDig (s.data.toList.take k) = true) (fun _ i => s.size - (intOf i).toNat)
  case atStart => exact ⟨0, Nat.zero_le _, rfl, rfl, rfl⟩
  case round =>
    obtain ⟨k, hk, rfl, rfl, had⟩ := hrel
    have hv : dval (s.data.toList.take k) < 10000000000 := dval_10 had (by rw [List.length_take]; omega)
    have HA := Lib.hid had
    clear had
    by_cases hlt : k < s.size
    · have b1 : s[k].toNat < 256 := s[k].toNat_lt
      have HS := Lib.hid (take_snoc s k hlt)
      have HG := Lib.hid (getQ s k hlt)
      by_cases hd : 48 ≤ s[k].toNat ∧ s[k].toNat ≤ 57
      · obtain ⟨d0, d1⟩ := hd
        have HV := Lib.hid (dval_snoc (s.data.toList.take k) s[k])
        have HD := Lib.hid (allDig_snoc (s.data.toList.take k) s[k])
        have hi : isDig s[k] = true := by rw [isDig_toNat]; simp; exact ⟨d0, d1⟩
        have HI := Lib.hid hi
        clear hi
        generalize dval (s.data.toList.take k) = v at *
        go_wp2
        go_round
        case rel => exact ⟨k + 1, by omega, by go_num, by rw [HS.out, HV.out]; first | go_num | (congr 2; push_cast; omega), by rw [HS.out, HD.out, HA.out, HI.out]; rfl⟩
        case measure => simp [intOf]; omega
      · have hf : isDig s[k] = false := by rw [isDig_toNat]; exact decide_eq_false hd
        have he : (0, false) = (x, q) := by rw [← HR.out]; exact (puF_dig HN.out (allDig_no HG.out hf)).symm
        cases he
        by_cases d0 : 48 ≤ s[k].toNat
        · have d1 : 57 < s[k].toNat := by omega
          clear hd
          go_wp2
          go_ret2
          exact ⟨rfl, Below.refl _ _⟩
        · have d1 : s[k].toNat < 48 := by omega
          clear hd
          go_wp2
          go_ret2
          exact ⟨rfl, Below.refl _ _⟩
    · have hke : k = s.size := by omega
      have HE := Lib.hid (take_all s k hke)
      rw [HE.out] at hv HA ⊢
      clear hke
      obtain ⟨v, ev⟩ : ∃ v, dval s.data.toList = v := ⟨_, rfl⟩
      rw [ev] at hv ⊢
      have EV := Lib.hid ev
      clear ev
      by_cases hb : 1000000000 < v
      · have he : (0, false) = (x, q) := by rw [← HR.out]; exact (puF_big HN.out HA.out (by rw [EV.out]; exact hb)).symm
        cases he
        go_wp2
        go_ret2
        exact ⟨rfl, Below.refl _ _⟩
      · have hb' : v ≤ 1000000000 := by omega
        clear hb
        go_wp2_with fail
        refine (fiS v (by omega) (by omega) w).mono ?_
        rintro e w1 ⟨rfl, hb1⟩
        by_cases hi : Lib.itoa (v : Int) = s.data.toList
        · have he : ((v : Int), true) = (x, q) := by rw [← HR.out, puF_yes HN.out HA.out (by rw [EV.out]; omega) (by rw [EV.out]; exact hi), EV.out]
          cases he
          have hq : ((⟨(Lib.itoa (v : Int)).toArray⟩ : ByteArray).toList == s.toList) = true := by rw [str_eq, decide_eq_true hi]
          clear hi
          generalize (⟨(Lib.itoa (v : Int)).toArray⟩ : ByteArray) = t at *
          go_wp2
          go_ret2
          exact ⟨rfl, hb1⟩
        · have he : (0, false) = (x, q) := by rw [← HR.out, puF_ne HN.out HA.out (by rw [EV.out]; exact hi)]
          cases he
          have hq : ((⟨(Lib.itoa (v : Int)).toArray⟩ : ByteArray).toList == s.toList) = false := by rw [str_eq, decide_eq_false hi]
          clear hi
          generalize (⟨(Lib.itoa (v : Int)).toArray⟩ : ByteArray) = t at *
          go_wp2
          go_ret2
          exact ⟨rfl, hb1⟩
set_option maxRecDepth 100000 in
set_option maxHeartbeats 1000000 in
theorem lawPu (w : World) (ht : Tab w) (s : ByteArray) (_hs : s.size ≤ maxLen) :
    Calls Tryd.prog 8 #[.string s] w fun e w' => e = .returned (.bool true) ∧ Below w.heap.size w w' := by
  by_cases h : 1048576 < s.size
  · clear ht
    go_enter Tryd.func8, Tryd.ntmps8
    go_wp2
    go_ret
    exact ⟨rfl, Below.refl _ _⟩
  · have h' : s.size ≤ 1048576 := by omega
    clear h _hs
    obtain ⟨r, hr⟩ : ∃ r, puF s.data.toList = r := ⟨_, rfl⟩
    have H1 := Lib.hid (fun w => puS s r hr w h')
    have H2 := Lib.hid (fun w ht => puI s r hr w ht h')
    have HT := Lib.hid ht
    clear ht hr
    obtain ⟨x, q⟩ := r
    go_enter Tryd.func8, Tryd.ntmps8
    go_wp2_with fail
    refine (H1.out _).mono ?_
    rintro e w1 ⟨rfl, hb1⟩
    go_wp2_with fail
    refine (H2.out _ (HT.out.below hb1)).mono ?_
    rintro e w2 ⟨rfl, hb2⟩
    go_wp2
    go_ret
    exact ⟨rfl, hb1.trans (hb2.mono hb1.size)⟩
end Go.Proofs.YtpdpkgpjgockaaaDoor
