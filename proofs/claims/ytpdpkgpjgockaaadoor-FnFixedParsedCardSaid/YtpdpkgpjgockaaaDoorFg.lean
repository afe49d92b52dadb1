/- Walk: FormatFixed, the reference's. -/
import Derived.Test.YtpdpkgpjgockaaaDoorFf
import Derived.Lib.QuietBelow
namespace Go.Proofs.YtpdpkgpjgockaaaDoor
open Go.RowKit

set_option maxRecDepth 100000 in
set_option maxHeartbeats 400000 in
theorem ffS_pos (u : Nat) (h1 : u ≤ 1000000000) (w : World) : Calls Tryd.prog 26 #[.int .i64 u] w (FfPost w u) := by
  have HO := Lib.hid (decide_eq_true (show -1000000000 ≤ (u : Int) ∧ (u : Int) ≤ 1000000000 by omega))
  have hneg : decide ((u : Int) < 0) = false := decide_eq_false (by omega)
  obtain ⟨m, hm⟩ : ∃ m, u % 1000 = m := ⟨_, rfl⟩
  obtain ⟨q, hq⟩ : ∃ q, u / 1000 = q := ⟨_, rfl⟩
  have m1 : m < 1000 := by omega
  have q1 : q ≤ 1000000 := by omega
  have em : (u : Int) % 1000 = (m : Int) := by omega
  have eq : (u : Int) / 1000 = (q : Int) := by omega
  have HM := Lib.hid hm
  have HQ := Lib.hid hq
  have hlq : (Lib.itoa (q : Int)).length ≤ 21 := Lib.itoa_length_le q (by omega) (by omega)
  clear hm hq
  go_enter Tryd.func26, Tryd.ntmps26
  go_wp2_with fail
  refine (inI_any u _ _ true w HO.out).mono ?_
  rintro e w1 ⟨rfl, rfl⟩
  go_wp2_with fail
  refine (fiS (1000 + (m : Int)) (by omega) (by omega) w).mono ?_
  rintro e w1 ⟨rfl, hb1⟩
  have hR : (⟨(Lib.itoa (1000 + (m : Int))).toArray⟩ : ByteArray).data.toList = Lib.decDigits (1000 + m) := itoa_nat (1000 + m)
  have hQ := itoa_nat q
  have hQs : (⟨(Lib.itoa (q : Int)).toArray⟩ : ByteArray).size ≤ 21 := hlq
  have hfq : ∀ w, Calls Tryd.prog 25 #[.int .i64 (q : Int)] w fun e w' => e = .returned (.string ⟨(Lib.itoa (q : Int)).toArray⟩) ∧ Below w.heap.size w w' := fun w => fiS (q : Int) (by omega) (by omega) w
  have HF := Lib.hid hfq
  clear hfq hlq
  generalize (⟨(Lib.itoa (1000 + (m : Int))).toArray⟩ : ByteArray) = R at *
  generalize (⟨(Lib.itoa (q : Int)).toArray⟩ : ByteArray) = Q at *
  have fin : ∀ P : ByteArray, P.data.toList = pad3 m → ByteArray.empty ++ Q ++ ⟨#[46]⟩ ++ P = ⟨(ffF (u : Int)).toArray⟩ := by
    intro P hP
    obtain ⟨a, b⟩ := ff_all (u := u) ByteArray.empty Q ⟨#[46]⟩ P (by rw [HQ.out]; exact hQ) rfl (by rw [HM.out]; exact hP)
    rw [a]
    exact ff_str (by omega) (by omega) _ _ (by rw [if_neg (by omega)]; rfl) b
  have FIN := Lib.hid fin
  have hl4 : R.size = 4 := by
    have h2 : R.size = (Lib.decDigits (1000 + m)).length := by rw [← hR]; simp
    rw [h2, Lib.decDigits_length]
    exact Lib.nDigits_unique 3 (1000 + m) (by omega) (by omega)
  have hp : (R.extract 1 4).data.toList = pad3 m := by
    rw [← tail_pad m1, ← hR]
    simp only [ByteArray.data_extract, Array.toList_extract]
    rw [List.extract_eq_take_drop]
    exact List.take_of_length_le (by simp; omega)
  have hps : (R.extract 1 4).size = 3 := by rw [ByteArray.size_extract]; omega
  have HP := Lib.hid hp
  clear fin hR hQ hp
  go_wp2_with fail
  have HFq : ∀ d os, Calls Tryd.prog 25 #[.int .i64 (q : Int)] (Sort.grow (redrawn w1 d) os) fun e w'' => e = .returned (.string Q) ∧ ∃ p : Regrown, w'' = Sort.grow (redrawn w1 p.d) p.os := fun d os => Calls.regrown_of (HF.out _)
  have etd : ((u : Nat) : Int).tdiv 1000 = (q : Int) := by rw [Int.tdiv_eq_ediv_of_nonneg (by omega)]; exact eq
  have ewr : IntKind.i64.wrap (q : Int) = (q : Int) := by rw [IntKind.wrap_i64]; omega
  have n1 : ¬ 9223372036854775807 < Q.size := by omega
  have n2 : ¬ 9223372036854775807 < Q.size + 1 := by omega
  have n3 : ¬ 9223372036854775807 < Q.size + 1 + 3 := by omega
  have n4 : ¬ 9223372036854775807 < 1 + Q.size := by omega
  have n5 : ¬ 9223372036854775807 < 1 + Q.size + 1 := by omega
  have n6 : ¬ 9223372036854775807 < 1 + Q.size + 1 + 3 := by omega
  refine wp_region_quiet_below (by kernel_rfl) (by kernel_rfl) ?_
  repeat (quiet_step (exact HFq _ _))
  refine wpQuiet_nil ?_
  intro _ hw2
  obtain ⟨⟨dq, osq⟩, hw3⟩ := hw2
  subst hw3
  go_wp2
  go_ret
  exact ⟨by rw [← FIN.out _ HP.out]; rfl, hb1.trans ((below_regrown w1 dq osq).mono hb1.size)⟩
set_option maxRecDepth 100000 in
set_option maxHeartbeats 400000 in
theorem ffS_neg (u : Nat) (z : Int) (hu : 1 ≤ u) (h1 : u ≤ 1000000000) (hz : z = -(u : Int)) (w : World) : Calls Tryd.prog 26 #[.int .i64 z] w (FfPost w z) := by
  have HO := Lib.hid (decide_eq_true (show -1000000000 ≤ z ∧ z ≤ 1000000000 by omega))
  have hneg : decide (z < 0) = true := decide_eq_true (by omega)
  have hz0 : z < 0 := by omega
  have hz1 : -1000000000 ≤ z := by omega
  have hzz : -z = (u : Int) := by omega
  have HZ := Lib.hid hz
  obtain ⟨m, hm⟩ : ∃ m, u % 1000 = m := ⟨_, rfl⟩
  obtain ⟨q, hq⟩ : ∃ q, u / 1000 = q := ⟨_, rfl⟩
  have m1 : m < 1000 := by omega
  have q1 : q ≤ 1000000 := by omega
  have em : (u : Int) % 1000 = (m : Int) := by omega
  have eq : (u : Int) / 1000 = (q : Int) := by omega
  have HM := Lib.hid hm
  have HQ := Lib.hid hq
  have hlq : (Lib.itoa (q : Int)).length ≤ 21 := Lib.itoa_length_le q (by omega) (by omega)
  clear hm hq hz
  go_enter Tryd.func26, Tryd.ntmps26
  go_wp2_with fail
  refine (inI_any z _ _ true w HO.out).mono ?_
  rintro e w1 ⟨rfl, rfl⟩
  go_wp2_with fail
  refine (fiS (1000 + (m : Int)) (by omega) (by omega) w).mono ?_
  rintro e w1 ⟨rfl, hb1⟩
  have hR : (⟨(Lib.itoa (1000 + (m : Int))).toArray⟩ : ByteArray).data.toList = Lib.decDigits (1000 + m) := itoa_nat (1000 + m)
  have hQ := itoa_nat q
  have hQs : (⟨(Lib.itoa (q : Int)).toArray⟩ : ByteArray).size ≤ 21 := hlq
  have hfq : ∀ w, Calls Tryd.prog 25 #[.int .i64 (q : Int)] w fun e w' => e = .returned (.string ⟨(Lib.itoa (q : Int)).toArray⟩) ∧ Below w.heap.size w w' := fun w => fiS (q : Int) (by omega) (by omega) w
  have HF := Lib.hid hfq
  clear hfq hlq
  generalize (⟨(Lib.itoa (1000 + (m : Int))).toArray⟩ : ByteArray) = R at *
  generalize (⟨(Lib.itoa (q : Int)).toArray⟩ : ByteArray) = Q at *
  have fin : ∀ P : ByteArray, P.data.toList = pad3 m → (⟨#[45]⟩ : ByteArray) ++ Q ++ ⟨#[46]⟩ ++ P = ⟨(ffF z).toArray⟩ := by
    intro P hP
    obtain ⟨a, b⟩ := ff_all (u := u) ⟨#[45]⟩ Q ⟨#[46]⟩ P (by rw [HQ.out]; exact hQ) rfl (by rw [HM.out]; exact hP)
    rw [a]
    have := HZ.out
    exact ff_str (by omega) (by omega) _ _ (by rw [if_pos (by omega)]) (by rw [b, show z.natAbs = u by omega])
  have FIN := Lib.hid fin
  have hl4 : R.size = 4 := by
    have h2 : R.size = (Lib.decDigits (1000 + m)).length := by rw [← hR]; simp
    rw [h2, Lib.decDigits_length]
    exact Lib.nDigits_unique 3 (1000 + m) (by omega) (by omega)
  have hp : (R.extract 1 4).data.toList = pad3 m := by
    rw [← tail_pad m1, ← hR]
    simp only [ByteArray.data_extract, Array.toList_extract]
    rw [List.extract_eq_take_drop]
    exact List.take_of_length_le (by simp; omega)
  have hps : (R.extract 1 4).size = 3 := by rw [ByteArray.size_extract]; omega
  have HP := Lib.hid hp
  clear fin hR hQ hp
  go_wp2_with fail
  have HFq : ∀ d os, Calls Tryd.prog 25 #[.int .i64 (q : Int)] (Sort.grow (redrawn w1 d) os) fun e w'' => e = .returned (.string Q) ∧ ∃ p : Regrown, w'' = Sort.grow (redrawn w1 p.d) p.os := fun d os => Calls.regrown_of (HF.out _)
  have etd : ((u : Nat) : Int).tdiv 1000 = (q : Int) := by rw [Int.tdiv_eq_ediv_of_nonneg (by omega)]; exact eq
  have ewr : IntKind.i64.wrap (q : Int) = (q : Int) := by rw [IntKind.wrap_i64]; omega
  have n1 : ¬ 9223372036854775807 < Q.size := by omega
  have n2 : ¬ 9223372036854775807 < Q.size + 1 := by omega
  have n3 : ¬ 9223372036854775807 < Q.size + 1 + 3 := by omega
  have n4 : ¬ 9223372036854775807 < 1 + Q.size := by omega
  have n5 : ¬ 9223372036854775807 < 1 + Q.size + 1 := by omega
  have n6 : ¬ 9223372036854775807 < 1 + Q.size + 1 + 3 := by omega
  refine wp_region_quiet_below (by kernel_rfl) (by kernel_rfl) ?_
  repeat (quiet_step (exact HFq _ _))
  refine wpQuiet_nil ?_
  intro _ hw2
  obtain ⟨⟨dq, osq⟩, hw3⟩ := hw2
  subst hw3
  go_wp2
  go_ret
  exact ⟨by rw [← FIN.out _ HP.out]; rfl, hb1.trans ((below_regrown w1 dq osq).mono hb1.size)⟩
set_option maxRecDepth 100000 in
theorem ffS_out (n : Int) (h : ¬ (-1000000000 ≤ n ∧ n ≤ 1000000000)) (w : World) : Calls Tryd.prog 26 #[.int .i64 n] w (FfPost w n) := by
  have HO := Lib.hid (decide_eq_false h)
  have HE := Lib.hid (ffF_out h)
  clear h
  go_enter Tryd.func26, Tryd.ntmps26
  go_wp2_with fail
  refine (inI_any n _ _ false w HO.out).mono ?_
  rintro e w1 ⟨rfl, rfl⟩
  go_wp2
  go_ret
  exact ⟨by rw [HE.out]; rfl, Below.refl _ _⟩
theorem ffS (n : Int) (w : World) : Calls Tryd.prog 26 #[.int .i64 n] w (FfPost w n) := by
  by_cases h : -1000000000 ≤ n ∧ n ≤ 1000000000
  · by_cases h0 : n < 0
    · exact ffS_neg n.natAbs n (by omega) (by omega) (by omega) w
    · obtain ⟨u, rfl⟩ : ∃ u : Nat, n = u := ⟨n.toNat, by omega⟩
      exact ffS_pos u (by omega) w
  · exact ffS_out n h w
end Go.Proofs.YtpdpkgpjgockaaaDoor
