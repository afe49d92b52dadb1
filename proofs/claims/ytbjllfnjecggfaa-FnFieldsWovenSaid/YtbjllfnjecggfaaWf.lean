/- Walks: LineOk, the program's and the reference's. -/
import Derived.Test.YtbjllfnjecggfaaWe
namespace Go.Proofs.Ytbjllfnjecggfaa
open Go.RowKit

theorem Rf.form {w : World} {v : Value} {zs : List Nat} (h : Rf w v zs) : ∃ a c, v = .slice a zs.length c := by
  rcases h.split with ⟨o, c, rfl, rfl⟩ | ⟨b, off, cap, rfl, _⟩
  · exact ⟨o, c, rfl⟩
  · exact ⟨_, cap, rfl⟩

/-- is a list of samples a line? -/
def lineB (xs : List Nat) : Bool := decide (24 < xs.length ∧ (xs.length - 24) % 4 = 0 ∧ (xs.length - 24) / 4 ≤ 64) && allR 1149239296 xs
theorem lineB_no {xs : List Nat} (h : ¬ (24 < xs.length ∧ (xs.length - 24) % 4 = 0 ∧ (xs.length - 24) / 4 ≤ 64)) : lineB xs = false := by
  unfold lineB; rw [decide_eq_false h]; rfl
theorem lineB_yes {xs : List Nat} (h : 24 < xs.length ∧ (xs.length - 24) % 4 = 0 ∧ (xs.length - 24) / 4 ≤ 64) : lineB xs = allR 1149239296 xs := by
  unfold lineB; rw [decide_eq_true h]; rfl
theorem lineB_len {xs : List Nat} (h : lineB xs = true) : 24 < xs.length ∧ (xs.length - 24) % 4 = 0 ∧ xs.length ≤ 280 := by
  unfold lineB at h
  rw [Bool.and_eq_true, decide_eq_true_eq] at h
  omega

set_option maxRecDepth 100000 in
set_option maxHeartbeats 400000 in
theorem lineI_any (v : Value) (xs : List Nat) (b : Bool) (w : World) (hR : Rf w v xs) (hlen : xs.length ≤ 1048576) (h : lineB xs = b) :
    Calls Try.prog 32 #[v] w fun e w' => e = .returned (.bool b) ∧ w = w' := by
  obtain ⟨a, c, rfl⟩ := hR.form
  have HB := Lib.hid h
  clear h
  by_cases h1 : 24 < xs.length
  · by_cases h2 : (xs.length - 24) % 4 = 0
    · by_cases h3 : (xs.length - 24) / 4 ≤ 64
      · have HY := Lib.hid ((lineB_yes ⟨h1, h2, h3⟩).symm.trans HB.out)
        have e2 : (((xs.length : Int) - 24) % 4 == 0) = true := by simp; omega
        have e3 : ((xs.length : Int) - 24) / 4 ≤ 64 := by omega
        clear h2 h3
        go_enter Try.func32, Try.ntmps32
        go_wp2_with (go_at_call 87; refine (bounded_any _ _ b _ hR hlen HY.out).mono ?_; rintro e w' ⟨rfl, rfl⟩)
        go_ret
        exact ⟨rfl, rfl⟩
      · have HN := Lib.hid ((lineB_no (xs := xs) (fun h => h3 h.2.2)).symm.trans HB.out)
        have e2 : (((xs.length : Int) - 24) % 4 == 0) = true := by simp; omega
        have e3 : 64 < ((xs.length : Int) - 24) / 4 := by omega
        clear h2 h3
        go_enter Try.func32, Try.ntmps32
        go_wp2_with fail
        go_ret
        exact ⟨by rw [← HN.out]; rfl, rfl⟩
    · have HN := Lib.hid ((lineB_no (xs := xs) (fun h => h2 h.2.1)).symm.trans HB.out)
      have e2 : (((xs.length : Int) - 24) % 4 == 0) = false := by rw [beq_eq_false_iff_ne]; omega
      clear h2
      go_enter Try.func32, Try.ntmps32
      go_wp2_with fail
      go_ret
      exact ⟨by rw [← HN.out]; rfl, rfl⟩
  · have HN := Lib.hid ((lineB_no (xs := xs) (fun h => h1 h.1)).symm.trans HB.out)
    have e1 : (xs.length : Int) - 24 ≤ 0 := by omega
    clear h1
    go_enter Try.func32, Try.ntmps32
    go_wp2_with fail
    go_ret
    exact ⟨by rw [← HN.out]; rfl, rfl⟩

theorem inI_any (n lo hi : Int) (b : Bool) (w : World) (h : decide (lo ≤ n ∧ n ≤ hi) = b) : Calls Try.prog 85 #[.int .i64 n, .int .i64 lo, .int .i64 hi] w fun e w' => e = .returned (.bool b) ∧ w = w' := by
  have HB := Lib.hid h
  clear h
  by_cases h1 : lo ≤ n
  · by_cases h2 : n ≤ hi
    · have HN := Lib.hid ((decide_eq_true (show lo ≤ n ∧ n ≤ hi from ⟨h1, h2⟩)).symm.trans HB.out)
      go_enter Try.func85, Try.ntmps85
      go_wp2
      go_ret
      exact ⟨by rw [← HN.out]; rfl, rfl⟩
    · have HN := Lib.hid ((decide_eq_false (show ¬ (lo ≤ n ∧ n ≤ hi) from fun h => h2 h.2)).symm.trans HB.out)
      go_enter Try.func85, Try.ntmps85
      go_wp2
      go_ret
      exact ⟨by rw [← HN.out]; rfl, rfl⟩
  · have HN := Lib.hid ((decide_eq_false (show ¬ (lo ≤ n ∧ n ≤ hi) from fun h => h1 h.1)).symm.trans HB.out)
    go_enter Try.func85, Try.ntmps85
    go_wp2
    go_ret
    exact ⟨by rw [← HN.out]; rfl, rfl⟩

theorem tmod_ne {n : Int} (h : ¬ n % 4 = 0) : (n.tmod 4 != 0) = true := by
  rw [bne_iff_ne]
  have := Int.tmod_eq_emod (a := n) (b := 4)
  split at this <;> omega
theorem tmod_eq {n : Int} (h : n % 4 = 0) : (n.tmod 4 != 0) = false := by
  have := Int.tmod_eq_emod (a := n) (b := 4)
  have e : n.tmod 4 = 0 := by split at this <;> omega
  rw [e]; rfl
theorem tdiv_le0 {n : Int} (h : n ≤ 0) : n.tdiv 4 ≤ 0 := by
  have := Int.neg_tdiv (a := n) (b := 4)
  have h2 : 0 ≤ (-n).tdiv 4 := Int.tdiv_nonneg (by omega) (by omega)
  omega

set_option maxRecDepth 100000 in
set_option maxHeartbeats 400000 in
theorem lineS_any (v : Value) (xs : List Nat) (b : Bool) (w : World) (hR : Rf w v xs) (hlen : xs.length ≤ 1048576) (h : lineB xs = b) :
    Calls Try.prog 31 #[v] w fun e w' => e = .returned (.bool b) ∧ w = w' := by
  obtain ⟨a, c, rfl⟩ := hR.form
  have HB := Lib.hid h
  clear h
  by_cases h1 : 24 < xs.length
  · by_cases h2 : (xs.length - 24) % 4 = 0
    · have e2 : (((xs.length : Int) - 24) % 4 != 0) = false := by simp; omega
      by_cases h3 : (xs.length - 24) / 4 ≤ 64
      · have HY := Lib.hid ((lineB_yes ⟨h1, h2, h3⟩).symm.trans HB.out)
        have hi : decide ((1 : Int) ≤ ((xs.length : Int) - 24) / 4 ∧ ((xs.length : Int) - 24) / 4 ≤ 64) = true := by simp; omega
        have HI := Lib.hid hi
        clear h2 h3 hi
        go_enter Try.func31, Try.ntmps31
        go_wp2_with (first | (go_at_call 85; refine (inI_any _ _ _ true _ HI.out).mono ?_; rintro e w' ⟨rfl, rfl⟩) | (go_at_call 86; refine (fine_any _ _ b _ hR hlen HY.out).mono ?_; rintro e w' ⟨rfl, rfl⟩) | (go_at_call 84; go_in))
        go_ret
        exact ⟨rfl, rfl⟩
      · have HN := Lib.hid ((lineB_no (xs := xs) (fun h => h3 h.2.2)).symm.trans HB.out)
        have hi : decide ((1 : Int) ≤ ((xs.length : Int) - 24) / 4 ∧ ((xs.length : Int) - 24) / 4 ≤ 64) = false := by simp; omega
        have HI := Lib.hid hi
        clear h2 h3 hi
        go_enter Try.func31, Try.ntmps31
        go_wp2_with (first | (go_at_call 85; refine (inI_any _ _ _ false _ HI.out).mono ?_; rintro e w' ⟨rfl, rfl⟩) | (go_at_call 84; go_in))
        go_ret
        exact ⟨by rw [← HN.out]; rfl, rfl⟩
    · have HN := Lib.hid ((lineB_no (xs := xs) (fun h => h2 h.2.1)).symm.trans HB.out)
      have e2 : (((xs.length : Int) - 24) % 4 != 0) = true := by rw [bne_iff_ne]; omega
      clear h2
      go_enter Try.func31, Try.ntmps31
      go_wp2_with (go_at_call 84; go_in)
      go_ret
      exact ⟨by rw [← HN.out]; rfl, rfl⟩
  · have HN := Lib.hid ((lineB_no (xs := xs) (fun h => h1 h.1)).symm.trans HB.out)
    by_cases h2 : ((xs.length : Int) - 24) % 4 = 0
    · have e2 := tmod_eq h2
      have e3 := tdiv_le0 (n := (xs.length : Int) - 24) (by omega)
      have hi : decide ((1 : Int) ≤ ((xs.length : Int) - 24).tdiv 4 ∧ ((xs.length : Int) - 24).tdiv 4 ≤ 64) = false := by simp; omega
      have HI := Lib.hid hi
      clear h1 h2 hi e3
      go_enter Try.func31, Try.ntmps31
      go_wp2_with (first | (go_at_call 85; refine (inI_any _ _ _ false _ HI.out).mono ?_; rintro e w' ⟨rfl, rfl⟩) | (go_at_call 84; go_in))
      go_ret
      exact ⟨by rw [← HN.out]; rfl, rfl⟩
    · have e2 := tmod_ne h2
      clear h1 h2
      go_enter Try.func31, Try.ntmps31
      go_wp2_with (go_at_call 84; go_in)
      go_ret
      exact ⟨by rw [← HN.out]; rfl, rfl⟩

end Go.Proofs.Ytbjllfnjecggfaa
