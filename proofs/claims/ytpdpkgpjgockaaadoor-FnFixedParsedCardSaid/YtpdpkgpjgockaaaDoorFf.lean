/- Walk: FormatFixed, the program's. -/
import Derived.Test.YtpdpkgpjgockaaaDoorFj
import Derived.Test.YtpdpkgpjgockaaaDoorPb
import Derived.Test.YtpdpkgpjgockaaaDoorWn
namespace Go.Proofs.YtpdpkgpjgockaaaDoor
open Go.RowKit

def FfPost (w : World) (n : Int) (e : Ending) (w' : World) : Prop := e = .returned (.string ⟨(ffF n).toArray⟩) ∧ Below w.heap.size w w'
theorem app_size (a b : ByteArray) : (a ++ b).size = a.size + b.size := ByteArray.size_append
theorem app_list (a b : ByteArray) : (a ++ b).data.toList = a.data.toList ++ b.data.toList := by simp
theorem ff_str {n : Int} (h0 : -1000000000 ≤ n) (h1 : n ≤ 1000000000) (sg S : ByteArray) (hs : sg.data.toList = if n < 0 then [45] else []) (hS : S.data.toList = tens n.natAbs) : sg ++ S = ⟨(ffF n).toArray⟩ := by
  refine str_of ?_
  have e : ffF n = if n < 0 then 45 :: tens n.natAbs else tens n.natAbs := by unfold ffF; rw [if_pos ⟨h0, h1⟩]
  rw [app_list, hs, hS, e]
  by_cases hn : n < 0
  · rw [if_pos hn, if_pos hn]; rfl
  · rw [if_neg hn, if_neg hn]; rfl
theorem ff_all {u : Nat} (sg Q P R : ByteArray) (hQ : Q.data.toList = Lib.decDigits (u / 1000)) (hP : P = ⟨#[46]⟩) (hR : R.data.toList = pad3 (u % 1000)) : sg ++ Q ++ P ++ R = sg ++ (Q ++ P ++ R) ∧ (Q ++ P ++ R).data.toList = tens u := by
  refine ⟨by rw [ByteArray.append_assoc, ByteArray.append_assoc, ByteArray.append_assoc], ?_⟩
  rw [app_list, app_list, hQ, hP, hR]
  unfold tens; simp
/-- the tail, made three digits long -/
theorem pad_of {m : Nat} (h : m < 1000) (R : ByteArray) (hR : R.data.toList = Lib.decDigits m) : (m < 10 ∧ R.size = 1 ∧ ((⟨#[48]⟩ : ByteArray) ++ (⟨#[48]⟩ ++ R)).data.toList = pad3 m) ∨ (¬ m < 10 ∧ m < 100 ∧ R.size = 2 ∧ ((⟨#[48]⟩ : ByteArray) ++ R).data.toList = pad3 m) ∨ (¬ m < 100 ∧ R.size = 3 ∧ R.data.toList = pad3 m) := by
  have hs : R.size = (Lib.decDigits m).length := by rw [← hR]; simp
  by_cases h1 : m < 10
  · refine .inl ⟨h1, by rw [hs, len_one h1], ?_⟩
    rw [app_list, app_list, hR, ← pad_one h1]; rfl
  · by_cases h2 : m < 100
    · refine .inr (.inl ⟨h1, h2, by rw [hs, len_two h1 h2], ?_⟩)
      rw [app_list, hR, ← pad_two h1 h2]; rfl
    · exact .inr (.inr ⟨h2, by rw [hs, len_three h2 h], by rw [hR, pad_three h2 h]⟩)
theorem itoa_nat (u : Nat) : (⟨(Lib.itoa (u : Int)).toArray⟩ : ByteArray).data.toList = Lib.decDigits u := by
  show Lib.itoa (u : Int) = _
  rw [itoa_ge _ (by omega)]; rfl

set_option maxRecDepth 100000 in
set_option maxHeartbeats 2000000 in
theorem ffI_pos (u : Nat) (h1 : u ≤ 1000000000) (w : World) (ht : Tab w) : Calls Tryd.prog 20 #[.int .i64 u] w (FfPost w u) := by
  have HT := Lib.hid ht
  have HO := Lib.hid (decide_eq_true (show -1000000000 ≤ (u : Int) ∧ (u : Int) ≤ 1000000000 by omega))
  have hneg : decide ((u : Int) < 0) = false := decide_eq_false (by omega)
  obtain ⟨m, hm⟩ : ∃ m, u % 1000 = m := ⟨_, rfl⟩
  obtain ⟨q, hq⟩ : ∃ q, u / 1000 = q := ⟨_, rfl⟩
  have m1 : m < 1000 := by omega
  have q1 : q ≤ 1000000 := by omega
  have em : (u : Int) % 1000 = (m : Int) := by omega
  have eq : (u : Int) / 1000 = (q : Int) := by omega
  have HM := Lib.hid hm
  have HQ := Lib.hid hq
  have hlq : (Lib.itoa (q : Int)).length ≤ 21 := Lib.itoa_length_le q (by omega) (by omega)
  clear ht hm hq
  go_enter Tryd.func20, Tryd.ntmps20
  go_wp2_with fail
  refine (fixedOk_any u true w HO.out).mono ?_
  rintro e w1 ⟨rfl, rfl⟩
  go_wp2_with fail
  refine (fiI m (by omega) (by omega) w HT.out).mono ?_
  rintro e w1 ⟨rfl, hb1⟩
  have hR := itoa_nat m
  have hQ := itoa_nat q
  have hQs : (⟨(Lib.itoa (q : Int)).toArray⟩ : ByteArray).size ≤ 21 := hlq
  have hfq := fun w ht => fiI (q : Int) (by omega) (by omega) w ht
  have HF := Lib.hid hfq
  clear hfq hlq
  generalize (⟨(Lib.itoa (m : Int)).toArray⟩ : ByteArray) = R at *
  generalize (⟨(Lib.itoa (q : Int)).toArray⟩ : ByteArray) = Q at *
  have fin : ∀ P : ByteArray, P.data.toList = pad3 m → ByteArray.empty ++ Q ++ ⟨#[46]⟩ ++ P = ⟨(ffF (u : Int)).toArray⟩ := by
    intro P hP
    obtain ⟨a, b⟩ := ff_all (u := u) ByteArray.empty Q ⟨#[46]⟩ P (by rw [HQ.out]; exact hQ) rfl (by rw [HM.out]; exact hP)
    rw [a]
    exact ff_str (by omega) (by omega) _ _ (by rw [if_neg (by omega)]; rfl) b
  have FIN := Lib.hid fin
  have HR := Lib.hid (pad_of m1 R hR)
  have hcs : ∀ P : ByteArray, ((⟨#[48]⟩ : ByteArray) ++ P).size = 1 + P.size := fun P => app_size _ _
  have HCS := Lib.hid hcs
  clear fin hR hQ hcs
  go_wp2_with fail
  rcases HR.out with ⟨-, r1, hp⟩ | ⟨-, -, r1, hp⟩ | ⟨-, r1, hp⟩
  · refine wp_loop_rounds 3 ?_
    have s1 := HCS.out R
    have s2 := HCS.out (⟨#[48]⟩ ++ R)
    rw [s1, r1] at s2
    rw [r1] at s1
    have HP := Lib.hid hp
    clear hp
    rw [rounds_succ]
    go_wp2
    rw [rounds_succ]
    go_wp2
    rw [rounds_succ]
    go_wp2_with fail
    refine (HF.out _ (HT.out.below hb1)).mono ?_
    rintro e w2 ⟨rfl, hb2⟩
    go_wp2
    go_ret
    exact ⟨by rw [← FIN.out _ HP.out]; rfl, hb1.trans (hb2.mono hb1.size)⟩
  · refine wp_loop_rounds 2 ?_
    have s1 := HCS.out R
    rw [r1] at s1
    have HP := Lib.hid hp
    clear hp
    rw [rounds_succ]
    go_wp2
    rw [rounds_succ]
    go_wp2_with fail
    refine (HF.out _ (HT.out.below hb1)).mono ?_
    rintro e w2 ⟨rfl, hb2⟩
    go_wp2
    go_ret
    exact ⟨by rw [← FIN.out _ HP.out]; rfl, hb1.trans (hb2.mono hb1.size)⟩
  · refine wp_loop_rounds 1 ?_
    have HP := Lib.hid hp
    clear hp
    rw [rounds_succ]
    go_wp2_with fail
    refine (HF.out _ (HT.out.below hb1)).mono ?_
    rintro e w2 ⟨rfl, hb2⟩
    go_wp2
    go_ret
    exact ⟨by rw [← FIN.out _ HP.out]; rfl, hb1.trans (hb2.mono hb1.size)⟩
set_option maxRecDepth 100000 in
set_option maxHeartbeats 2000000 in
theorem ffI_neg (u : Nat) (z : Int) (hu : 1 ≤ u) (h1 : u ≤ 1000000000) (hz : z = -(u : Int)) (w : World) (ht : Tab w) : Calls Tryd.prog 20 #[.int .i64 z] w (FfPost w z) := by
  have HT := Lib.hid ht
  have HO := Lib.hid (decide_eq_true (show -1000000000 ≤ z ∧ z ≤ 1000000000 by omega))
  have hneg : decide (z < 0) = true := decide_eq_true (by omega)
  have hz0 : z < 0 := by omega
  have hz1 : -1000000000 ≤ z := by omega
  have hzz : -z = (u : Int) := by omega
  have HZ := Lib.hid hz
  obtain ⟨m, hm⟩ : ∃ m, u % 1000 = m := ⟨_, rfl⟩
  obtain ⟨q, hq⟩ : ∃ q, u / 1000 = q := ⟨_, rfl⟩
  have m1 : m < 1000 := by omega
  have q1 : q ≤ 1000000 := by omega
  have em : (u : Int) % 1000 = (m : Int) := by omega
  have eq : (u : Int) / 1000 = (q : Int) := by omega
  have HM := Lib.hid hm
  have HQ := Lib.hid hq
  have hlq : (Lib.itoa (q : Int)).length ≤ 21 := Lib.itoa_length_le q (by omega) (by omega)
  clear ht hm hq hz
  go_enter Tryd.func20, Tryd.ntmps20
  go_wp2_with fail
  refine (fixedOk_any z true w HO.out).mono ?_
  rintro e w1 ⟨rfl, rfl⟩
  go_wp2_with fail
  refine (fiI m (by omega) (by omega) w HT.out).mono ?_
  rintro e w1 ⟨rfl, hb1⟩
  have hR := itoa_nat m
  have hQ := itoa_nat q
  have hQs : (⟨(Lib.itoa (q : Int)).toArray⟩ : ByteArray).size ≤ 21 := hlq
  have hfq := fun w ht => fiI (q : Int) (by omega) (by omega) w ht
  have HF := Lib.hid hfq
  clear hfq hlq
  generalize (⟨(Lib.itoa (m : Int)).toArray⟩ : ByteArray) = R at *
  generalize (⟨(Lib.itoa (q : Int)).toArray⟩ : ByteArray) = Q at *
  have fin : ∀ P : ByteArray, P.data.toList = pad3 m → (⟨#[45]⟩ : ByteArray) ++ Q ++ ⟨#[46]⟩ ++ P = ⟨(ffF z).toArray⟩ := by
    intro P hP
    obtain ⟨a, b⟩ := ff_all (u := u) ⟨#[45]⟩ Q ⟨#[46]⟩ P (by rw [HQ.out]; exact hQ) rfl (by rw [HM.out]; exact hP)
    rw [a]
    have := HZ.out
    exact ff_str (by omega) (by omega) _ _ (by rw [if_pos (by omega)]) (by rw [b, show z.natAbs = u by omega])
  have FIN := Lib.hid fin
  have HR := Lib.hid (pad_of m1 R hR)
  have hcs : ∀ P : ByteArray, ((⟨#[48]⟩ : ByteArray) ++ P).size = 1 + P.size := fun P => app_size _ _
  have HCS := Lib.hid hcs
  clear fin hR hQ hcs
  go_wp2_with fail
  rcases HR.out with ⟨-, r1, hp⟩ | ⟨-, -, r1, hp⟩ | ⟨-, r1, hp⟩
  · refine wp_loop_rounds 3 ?_
    have s1 := HCS.out R
    have s2 := HCS.out (⟨#[48]⟩ ++ R)
    rw [s1, r1] at s2
    rw [r1] at s1
    have HP := Lib.hid hp
    clear hp
    rw [rounds_succ]
    go_wp2
    rw [rounds_succ]
    go_wp2
    rw [rounds_succ]
    go_wp2_with fail
    refine (HF.out _ (HT.out.below hb1)).mono ?_
    rintro e w2 ⟨rfl, hb2⟩
    go_wp2
    go_ret
    exact ⟨by rw [← FIN.out _ HP.out]; rfl, hb1.trans (hb2.mono hb1.size)⟩
  · refine wp_loop_rounds 2 ?_
    have s1 := HCS.out R
    rw [r1] at s1
    have HP := Lib.hid hp
    clear hp
    rw [rounds_succ]
    go_wp2
    rw [rounds_succ]
    go_wp2_with fail
    refine (HF.out _ (HT.out.below hb1)).mono ?_
    rintro e w2 ⟨rfl, hb2⟩
    go_wp2
    go_ret
    exact ⟨by rw [← FIN.out _ HP.out]; rfl, hb1.trans (hb2.mono hb1.size)⟩
  · refine wp_loop_rounds 1 ?_
    have HP := Lib.hid hp
    clear hp
    rw [rounds_succ]
    go_wp2_with fail
    refine (HF.out _ (HT.out.below hb1)).mono ?_
    rintro e w2 ⟨rfl, hb2⟩
    go_wp2
    go_ret
    exact ⟨by rw [← FIN.out _ HP.out]; rfl, hb1.trans (hb2.mono hb1.size)⟩
set_option maxRecDepth 100000 in
theorem ffI_out (n : Int) (h : ¬ (-1000000000 ≤ n ∧ n ≤ 1000000000)) (w : World) : Calls Tryd.prog 20 #[.int .i64 n] w (FfPost w n) := by
  have HO := Lib.hid (decide_eq_false h)
  have HE := Lib.hid (ffF_out h)
  clear h
  go_enter Tryd.func20, Tryd.ntmps20
  go_wp2_with fail
  refine (fixedOk_any n false w HO.out).mono ?_
  rintro e w1 ⟨rfl, rfl⟩
  go_wp2
  go_ret
  exact ⟨by rw [HE.out]; rfl, Below.refl _ _⟩
theorem ffI (n : Int) (w : World) (ht : Tab w) : Calls Tryd.prog 20 #[.int .i64 n] w (FfPost w n) := by
  by_cases h : -1000000000 ≤ n ∧ n ≤ 1000000000
  · by_cases h0 : n < 0
    · exact ffI_neg n.natAbs n (by omega) (by omega) (by omega) w ht
    · obtain ⟨u, rfl⟩ : ∃ u : Nat, n = u := ⟨n.toNat, by omega⟩
      exact ffI_pos u (by omega) w ht
  · exact ffI_out n h w
end Go.Proofs.YtpdpkgpjgockaaaDoor
