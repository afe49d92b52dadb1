/- Walks: ParseUint, both. -/
import Derived.Test.YtpdpkgpjgockaaaDoorFj
namespace Go.Proofs.YtpdpkgpjgockaaaDoor
open Go.RowKit

def PuPost (w : World) (r : Int × Bool) (e : Ending) (w' : World) : Prop := e = .returned (.tuple #[.int .i64 r.1, .bool r.2]) ∧ Below w.heap.size w w'
theorem puF_long {l : List UInt8} (h : 10 < l.length) : puF l = (0, false) := by unfold puF; rw [if_pos h]
theorem allDig_no {l : List UInt8} {j : Nat} {c : UInt8} (h : l[j]? = some c) (hc : isDig c = false) : allDig l = false := by
  unfold allDig
  rw [List.all_eq_false]
  exact ⟨c, List.mem_of_getElem? h, by rw [hc]; simp⟩
theorem puF_dig {l : List UInt8} (h : ¬ 10 < l.length) (hd : allDig l = false) : puF l = (0, false) := by unfold puF; rw [if_neg h, if_pos hd]
theorem puF_big {l : List UInt8} (h : ¬ 10 < l.length) (hd : allDig l = true) (hv : 1000000000 < dval l) : puF l = (0, false) := by unfold puF; rw [if_neg h, hd, if_neg (by simp), if_pos (.inl hv)]
theorem puF_ne {l : List UInt8} (h : ¬ 10 < l.length) (hd : allDig l = true) (hv : Lib.itoa (dval l) ≠ l) : puF l = (0, false) := by unfold puF; rw [if_neg h, hd, if_neg (by simp), if_pos (.inr hv)]
theorem puF_yes {l : List UInt8} (h : ¬ 10 < l.length) (hd : allDig l = true) (hb : ¬ 1000000000 < dval l) (hv : Lib.itoa (dval l) = l) : puF l = (((dval l : Nat) : Int), true) := by unfold puF; rw [if_neg h, hd, if_neg (by simp), if_neg (by simp [hv]; omega)]
theorem getQ (s : ByteArray) (k : Nat) (h : k < s.size) : s.data.toList[k]? = some s[k] := by rw [List.getElem?_eq_getElem (by simpa using h)]; rfl
theorem str_eq (s : ByteArray) (l : List UInt8) : ((⟨l.toArray⟩ : ByteArray).toList == s.toList) = decide (l = s.data.toList) := by
  rw [ByteArray.toList_mk, ByteArray.toList_eq]
  by_cases h : l = s.data.toList
  · rw [h]; simp
  · rw [decide_eq_false h]; simpa using h
theorem dval_10 {l : List UInt8} (h : allDig l = true) (hl : l.length ≤ 10) : dval l < 10000000000 :=
  Nat.lt_of_lt_of_le (dval_lt l h) (by have := Nat.pow_le_pow_right (show 0 < 10 by omega) hl; omega)
theorem isDig_toNat (c : UInt8) : isDig c = decide (48 ≤ c.toNat ∧ c.toNat ≤ 57) := rfl

set_option maxRecDepth 100000 in
set_option maxHeartbeats 1000000 in
theorem puI (s : ByteArray) (r : Int × Bool) (hr : puF s.data.toList = r) (w : World) (ht : Tab w) (hs : s.size ≤ 1048576) : Calls Tryd.prog 28 #[.string s] w (PuPost w r) := by
  have HR := Lib.hid hr
  have HT := Lib.hid ht
  have hl : s.data.toList.length = s.size := by simp
  have HL := Lib.hid hl
  clear hr ht hl
  obtain ⟨x, q⟩ := r
  by_cases h0 : s.size = 0
  · have he : (0, false) = (x, q) := by
      rw [← HR.out]
      have : s.data.toList = [] := List.eq_nil_of_length_eq_zero (HL.out.trans h0)
      rw [this]; exact (puF_ne (by simp) rfl (itoa_ne _)).symm
    cases he
    have e0 : ((s.size : Int) == 0) = true := by rw [h0]; rfl
    clear h0
    go_enter Tryd.func28, Tryd.ntmps28
    go_wp2
    go_ret2
    exact ⟨rfl, Below.refl _ _⟩
  have e0 : ((s.size : Int) == 0) = false := by rw [beq_eq_false_iff_ne]; omega
  clear h0
  by_cases h10 : 10 < s.size
  · have he : (0, false) = (x, q) := by rw [← HR.out]; exact (puF_long (by rw [HL.out]; exact h10)).symm
    cases he
    go_enter Tryd.func28, Tryd.ntmps28
    go_wp2
    go_ret2
    exact ⟨rfl, Below.refl _ _⟩
  have h10' : s.size ≤ 10 := by omega
  have e10 : decide (10 < (s.size : Int)) = false := decide_eq_false (by omega)
  have HN : Hid (¬ 10 < s.data.toList.length) := Lib.hid (by rw [HL.out]; exact h10)
  clear h10
  go_enter Tryd.func28, Tryd.ntmps28
  go_wp2
  go_loop [4, 5] (fun n i => ∃ k : Nat, k ≤ s.size ∧ i = .int .i64 k ∧ n = .int .i64 (dval (s.data.toList.take k) : Nat) ∧ allDig (s.data.toList.take k) = true) (fun _ i => s.size - (intOf i).toNat)
  case atStart => exact ⟨0, Nat.zero_le _, rfl, rfl, rfl⟩
  case round =>
    obtain ⟨k, hk, rfl, rfl, had⟩ := hrel
    have hv : dval (s.data.toList.take k) < 10000000000 := dval_10 had (by rw [List.length_take]; omega)
    have HA := Lib.hid had
    clear had
    by_cases hlt : k < s.size
    · have b1 : s[k].toNat < 256 := s[k].toNat_lt
      have HS := Lib.hid (take_snoc s k hlt)
      have HG := Lib.hid (getQ s k hlt)
      by_cases hd : 48 ≤ s[k].toNat ∧ s[k].toNat ≤ 57
      · obtain ⟨d0, d1⟩ := hd
        have HV := Lib.hid (dval_snoc (s.data.toList.take k) s[k])
        have HD := Lib.hid (allDig_snoc (s.data.toList.take k) s[k])
        have hi : isDig s[k] = true := by rw [isDig_toNat]; simp; exact ⟨d0, d1⟩
        have HI := Lib.hid hi
        clear hi
        generalize dval (s.data.toList.take k) = v at *
        go_wp2
        go_round
        case rel => exact ⟨k + 1, by omega, by go_num, by rw [HS.out, HV.out]; first | go_num | (congr 2; push_cast; omega), by rw [HS.out, HD.out, HA.out, HI.out]; rfl⟩
        case measure => simp [intOf]; omega
      · have hf : isDig s[k] = false := by rw [isDig_toNat]; exact decide_eq_false hd
        have he : (0, false) = (x, q) := by rw [← HR.out]; exact (puF_dig HN.out (allDig_no HG.out hf)).symm
        cases he
        by_cases d0 : 48 ≤ s[k].toNat
        · have d1 : 57 < s[k].toNat := by omega
          clear hd
          go_wp2
          go_ret2
          exact ⟨rfl, Below.refl _ _⟩
        · have d1 : s[k].toNat < 48 := by omega
          clear hd
          go_wp2
          go_ret2
          exact ⟨rfl, Below.refl _ _⟩
    · have hke : k = s.size := by omega
      have HE := Lib.hid (take_all s k hke)
      rw [HE.out] at hv HA ⊢
      clear hke
      obtain ⟨v, ev⟩ : ∃ v, dval s.data.toList = v := ⟨_, rfl⟩
      rw [ev] at hv ⊢
      have EV := Lib.hid ev
      clear ev
      by_cases hb : 1000000000 < v
      · have he : (0, false) = (x, q) := by rw [← HR.out]; exact (puF_big HN.out HA.out (by rw [EV.out]; exact hb)).symm
        cases he
        go_wp2
        go_ret2
        exact ⟨rfl, Below.refl _ _⟩
      · have hb' : v ≤ 1000000000 := by omega
        clear hb
        go_wp2_with fail
        refine (fiI v (by omega) (by omega) w HT.out).mono ?_
        rintro e w1 ⟨rfl, hb1⟩
        by_cases hi : Lib.itoa (v : Int) = s.data.toList
        · have he : ((v : Int), true) = (x, q) := by rw [← HR.out, puF_yes HN.out HA.out (by rw [EV.out]; omega) (by rw [EV.out]; exact hi), EV.out]
          cases he
          have hq : ((⟨(Lib.itoa (v : Int)).toArray⟩ : ByteArray).toList == s.toList) = true := by rw [str_eq, decide_eq_true hi]
          clear hi
          generalize (⟨(Lib.itoa (v : Int)).toArray⟩ : ByteArray) = t at *
          go_wp2
          go_ret2
          exact ⟨rfl, hb1⟩
        · have he : (0, false) = (x, q) := by rw [← HR.out, puF_ne HN.out HA.out (by rw [EV.out]; exact hi)]
          cases he
          have hq : ((⟨(Lib.itoa (v : Int)).toArray⟩ : ByteArray).toList == s.toList) = false := by rw [str_eq, decide_eq_false hi]
          clear hi
          generalize (⟨(Lib.itoa (v : Int)).toArray⟩ : ByteArray) = t at *
          go_wp2
          go_ret2
          exact ⟨rfl, hb1⟩
end Go.Proofs.YtpdpkgpjgockaaaDoor
