/- Walks: are samples bounded? is a line valid? the program's and the reference's. -/
import Derived.Test.YtbjllfnjecggfaaWc
import Derived.Test.YtbjllfnjecggfaaFc
namespace Go.Proofs.Ytbjllfnjecggfaa
open Go.RowKit

def allR (hi : Nat) (xs : List Nat) : Bool := xs.all (Fl.inRng hi)
theorem allR_take (hi : Nat) (xs : List Nat) (j : Nat) (h : j < xs.length) : allR hi (xs.take (j + 1)) = (allR hi (xs.take j) && Fl.inRng hi (xs.getD j 0)) := by
  unfold allR; rw [getD_take_succ xs j h, List.all_append]; simp
theorem allR_false (hi : Nat) (xs : List Nat) (j : Nat) (h : j < xs.length) (hf : Fl.inRng hi (xs.getD j 0) = false) : allR hi xs = false := by
  have e : xs.getD j 0 = xs[j] := by simp [List.getD, h]
  rw [e] at hf
  unfold allR
  rw [Bool.eq_false_iff]
  intro ha
  rw [List.all_eq_true] at ha
  have := ha xs[j] (List.getElem_mem h)
  rw [hf] at this; cases this

set_option maxHeartbeats 400000 in
theorem amount_any (x : Nat) (w : World) :
    Calls Try.prog 126 #[.float .f32 x] w fun e w' => e = .returned (.float .f32 (Fl.amt x)) ∧ w = w' := by
  go_enter Try.func126, Try.ntmps126
  go_wp2
  all_goals go_ret
  all_goals simp [Fl.amt, *]

set_option maxHeartbeats 400000 in
theorem bound1_any (x : Nat) (b : Bool) (w : World) (h : Fl.inRng 1149239296 x = b) :
    Calls Try.prog 125 #[.float .f32 x] w fun e w' => e = .returned (.bool (!b)) ∧ w = w' := by
  have H := Lib.hid h
  clear h
  go_enter Try.func125, Try.ntmps125
  go_wp2_with (go_at_call 126; refine (amount_any _ _).mono ?_; rintro e w' ⟨rfl, rfl⟩)
  go_ret
  exact ⟨by rw [← H.out, ← Fl.amt_rng Fl.sc_1024]; simp, rfl⟩

set_option maxRecDepth 100000 in
set_option maxHeartbeats 400000 in
theorem indexF_any (v : Value) (xs : List Nat) (w : World) (hR : Rf w v xs) (hlen : xs.length ≤ 1048576) :
    Calls Try.prog 141 #[v, .func (.func 125) #[] #[]] w fun e w' => ∃ r : Int, e = .returned (.int .i64 r) ∧ decide (0 ≤ r) = !(allR 1149239296 xs) ∧ w = w' := by
  rcases hR.split with ⟨o, c, rfl, rfl⟩ | ⟨b, off, cap, rfl, h1, h2, hc⟩
  · go_enter Try.func141, Try.ntmps141
    go_wp2
    refine wp_loop_rounds 1 ?_
    rw [rounds_succ]
    go_wp2
    go_ret
    exact ⟨-1, rfl, rfl, rfl⟩
  · have HC := Lib.hid hc
    clear hc
    go_enter Try.func141, Try.ntmps141
    go_wp2
    go_loop [5, 8] (fun _ i => ∃ j : Nat, j ≤ xs.length ∧ i = .int .i64 j ∧ allR 1149239296 (xs.take j) = true) (fun _ i => xs.length - (intOf i).toNat)
    case atStart => exact ⟨0, Nat.zero_le _, rfl, rfl⟩
    case round =>
      obtain ⟨j, hj, rfl, hall⟩ := hrel
      have HA := Lib.hid hall
      clear hall
      by_cases hlt : j < xs.length
      · have hcell := HC.out j hlt
        have ht := Lib.hid (allR_take 1149239296 xs j hlt)
        have hf := Lib.hid (allR_false 1149239296 xs j hlt)
        generalize xs.getD j 0 = x at *
        obtain ⟨q, hq⟩ : ∃ q, Fl.inRng 1149239296 x = q := ⟨_, rfl⟩
        have HQ := Lib.hid hq
        clear hq
        cases q
        · go_wp2_with (go_at_call 125; refine (bound1_any _ false _ HQ.out).mono ?_; rintro e w' ⟨rfl, rfl⟩)
          go_ret
          refine ⟨j, rfl, ?_, rfl⟩
          rw [hf.out HQ.out]; simp
        · go_wp2_with (go_at_call 125; refine (bound1_any _ true _ HQ.out).mono ?_; rintro e w' ⟨rfl, rfl⟩)
          go_round
          case rel => exact ⟨j + 1, by omega, by go_num, by rw [ht.out, HA.out, HQ.out]; rfl⟩
          case measure => simp [intOf]; omega
      · have hke : j = xs.length := by omega
        subst hke
        go_wp2
        go_ret
        refine ⟨-1, rfl, ?_, rfl⟩
        have := HA.out
        rw [List.take_of_length_le (Nat.le_refl _)] at this
        rw [this]; rfl

set_option maxHeartbeats 400000 in
theorem containsF_any (v : Value) (xs : List Nat) (w : World) (hR : Rf w v xs) (hlen : xs.length ≤ 1048576) :
    Calls Try.prog 124 #[v, .func (.func 125) #[] #[]] w fun e w' => e = .returned (.bool !(allR 1149239296 xs)) ∧ w = w' := by
  go_enter Try.func124, Try.ntmps124
  go_wp2_with (go_at_call 141; refine (indexF_any _ _ _ hR hlen).mono ?_; rintro e w' ⟨r, rfl, hr, rfl⟩; have HR := Lib.hid hr; clear hr)
  go_ret
  exact ⟨by rw [← HR.out]; rfl, rfl⟩

set_option maxHeartbeats 400000 in
theorem bounded_any (v : Value) (xs : List Nat) (b : Bool) (w : World) (hR : Rf w v xs) (hlen : xs.length ≤ 1048576) (h : allR 1149239296 xs = b) :
    Calls Try.prog 87 #[v] w fun e w' => e = .returned (.bool b) ∧ w = w' := by
  have H := Lib.hid h
  clear h
  go_enter Try.func87, Try.ntmps87
  go_wp2_with (go_at_call 124; refine (containsF_any _ _ _ hR hlen).mono ?_; rintro e w' ⟨rfl, rfl⟩)
  go_ret
  exact ⟨by rw [← H.out]; simp, rfl⟩

set_option maxRecDepth 100000 in
set_option maxHeartbeats 400000 in
theorem fine_any (v : Value) (xs : List Nat) (b : Bool) (w : World) (hR : Rf w v xs) (hlen : xs.length ≤ 1048576) (h : allR 1149239296 xs = b) :
    Calls Try.prog 86 #[v] w fun e w' => e = .returned (.bool b) ∧ w = w' := by
  have HB := Lib.hid h
  clear h
  rcases hR.split with ⟨o, c, rfl, rfl⟩ | ⟨b', off, cap, rfl, h1, h2, hc⟩
  · go_enter Try.func86, Try.ntmps86
    go_wp2
    refine wp_loop_rounds 1 ?_
    rw [rounds_succ]
    go_wp2
    go_ret
    exact ⟨by rw [← HB.out]; rfl, rfl⟩
  · have HC := Lib.hid hc
    clear hc
    go_enter Try.func86, Try.ntmps86
    go_wp2
    go_loop [3] (fun i => ∃ j : Nat, j ≤ xs.length ∧ i = .int .i64 j ∧ allR 1149239296 (xs.take j) = true) (fun i => xs.length - (intOf i).toNat)
    case atStart => exact ⟨0, Nat.zero_le _, rfl, rfl⟩
    case round =>
      obtain ⟨j, hj, rfl, hall⟩ := hrel
      have HA := Lib.hid hall
      clear hall
      by_cases hlt : j < xs.length
      · have hcell := HC.out j hlt
        have ht := Lib.hid (allR_take 1149239296 xs j hlt)
        have hf := Lib.hid (allR_false 1149239296 xs j hlt)
        generalize xs.getD j 0 = x at *
        obtain ⟨q, hq⟩ : ∃ q, Fl.inRng 1149239296 x = q := ⟨_, rfl⟩
        have HQ := Lib.hid hq
        have hq' := hq
        unfold Fl.inRng at hq'
        rw [Fl.neg_1024] at hq'
        clear hq
        obtain ⟨q1, e1⟩ : ∃ q1, (FloatKind.f32.format.order x 3296722944 == some .gt || FloatKind.f32.format.order x 3296722944 == some .eq) = q1 := ⟨_, rfl⟩
        obtain ⟨q2, e2⟩ : ∃ q2, (FloatKind.f32.format.order x 1149239296 == some .lt || FloatKind.f32.format.order x 1149239296 == some .eq) = q2 := ⟨_, rfl⟩
        rw [e1, e2] at hq'
        cases q1 <;> cases q2 <;> simp only [Bool.false_and, Bool.and_false, Bool.true_and] at hq' <;> subst hq'
        · go_wp2
          go_ret
          exact ⟨by rw [← HB.out, hf.out HQ.out]; rfl, rfl⟩
        · go_wp2
          go_ret
          exact ⟨by rw [← HB.out, hf.out HQ.out]; rfl, rfl⟩
        · go_wp2
          go_ret
          exact ⟨by rw [← HB.out, hf.out HQ.out]; rfl, rfl⟩
        · go_wp2
          go_round
          case rel => exact ⟨j + 1, by omega, by go_num, by rw [ht.out, HA.out, HQ.out]; rfl⟩
          case measure => simp [intOf]; omega
      · have hke : j = xs.length := by omega
        subst hke
        go_wp2
        go_ret
        have := HA.out
        rw [List.take_of_length_le (Nat.le_refl _)] at this
        exact ⟨by rw [← HB.out, this]; rfl, rfl⟩

end Go.Proofs.Ytbjllfnjecggfaa
