/- Walks: a row is valid, the program's and the reference's. -/
import Derived.Test.YtbjllfnjecggfaaCb
namespace Go.Proofs.Ytbjllfnjecggfaa
open Go.RowKit

def allC (l : List CV) : Bool := l.all cellB
theorem getDC_take_succ (l : List CV) (k : Nat) (h : k < l.length) : l.take (k + 1) = l.take k ++ [l.getD k c0] := by
  rw [List.take_add_one, List.getElem?_eq_getElem h]; simp [List.getD, h]
theorem allC_take (l : List CV) (j : Nat) (h : j < l.length) : allC (l.take (j + 1)) = (allC (l.take j) && cellB (l.getD j c0)) := by
  unfold allC; rw [getDC_take_succ l j h, List.all_append]; simp
theorem allC_false (l : List CV) (j : Nat) (h : j < l.length) (hf : cellB (l.getD j c0) = false) : allC l = false := by
  have e : l.getD j c0 = l[j] := by simp [List.getD, h]
  rw [e] at hf
  unfold allC
  rw [Bool.eq_false_iff]
  intro ha
  rw [List.all_eq_true] at ha
  have := ha l[j] (List.getElem_mem h)
  rw [hf] at this; cases this
def rowB (l : List CV) : Bool := decide (1 ≤ l.length ∧ l.length ≤ 64) && allC l
theorem rowB_F (l : List CV) : rowOkF (l.map fvc) = rowB l := by
  unfold rowOkF rowB allC
  rw [List.length_map, List.all_map]
  congr 1
  congr 1
  funext c
  exact cellB_F c

set_option maxRecDepth 100000 in
set_option maxHeartbeats 400000 in
theorem indexC_any (v : Value) (l : List CV) (w : World) (hR : Rc w v l) (hlen : l.length ≤ 1048576) :
    Calls Try.prog 143 #[v, .func (.func 131) #[] #[]] w fun e w' => ∃ r : Int, e = .returned (.int .i64 r) ∧ decide (0 ≤ r) = !(allC l) ∧ Below w.heap.size w w' := by
  have HR := Lib.hid hR
  rcases hR with ⟨o, c, rfl, rfl⟩ | ⟨b, off, cap, rfl, h1, h2, hc⟩
  · go_enter Try.func143, Try.ntmps143
    go_wp2
    refine wp_loop_rounds 1 ?_
    rw [rounds_succ]
    go_wp2
    go_ret
    exact ⟨-1, rfl, rfl, Below.refl _ _⟩
  · have HC := Lib.hid hc
    clear hc
    go_enter Try.func143, Try.ntmps143
    go_wp2
    go_loopw [5, 8] (fun _ i wr => ∃ j : Nat, j ≤ l.length ∧ i = .int .i64 j ∧ allC (l.take j) = true ∧ Below w.heap.size w wr) (fun _ i _ => l.length - (intOf i).toNat)
    case atStart => exact ⟨0, Nat.zero_le _, rfl, rfl, Below.refl _ _⟩
    case round =>
      obtain ⟨j, hj, rfl, hall, hbw⟩ := hrel
      have HA := Lib.hid hall
      clear hall
      by_cases hlt : j < l.length
      · obtain ⟨hcell, hcell2⟩ := HC.out j hlt
        rw [← hbw.cell (p := ⟨b, off + j * 2, none⟩) (World.block_lt_of_cell? _ _ hcell)] at hcell
        rw [← hbw.cell (p := ⟨b, off + j * 2 + 1, none⟩) (World.block_lt_of_cell? _ _ hcell2)] at hcell2
        have ht := Lib.hid (allC_take l j hlt)
        have hf := Lib.hid (allC_false l j hlt)
        generalize l.getD j c0 = x at *
        obtain ⟨y, re, im⟩ := x
        obtain ⟨q, hq⟩ : ∃ q, cellB (y, re, im) = q := ⟨_, rfl⟩
        have HQ := Lib.hid hq
        clear hq
        dsimp only at hcell hcell2
        cases q
        · go_wp2_with (go_at_call 131; refine (rowOk1_any (y, re, im) false _ HQ.out).mono ?_; rintro e w1 ⟨rfl, hb1⟩)
          go_ret
          refine ⟨j, rfl, ?_, hbw.trans (hb1.mono hbw.size)⟩
          rw [hf.out HQ.out]; simp
        · go_wp2_with (go_at_call 131; refine (rowOk1_any (y, re, im) true _ HQ.out).mono ?_; rintro e w1 ⟨rfl, hb1⟩)
          go_roundw
          case rel => exact ⟨j + 1, by omega, by go_num, by rw [ht.out, HA.out, HQ.out]; rfl, hbw.trans (hb1.mono hbw.size)⟩
          case measure => simp [intOf]; omega
      · have hke : j = l.length := by omega
        subst hke
        go_wp2
        go_ret
        refine ⟨-1, rfl, ?_, hbw⟩
        have := HA.out
        rw [List.take_of_length_le (Nat.le_refl _)] at this
        rw [this]; rfl

set_option maxHeartbeats 400000 in
theorem containsC_any (v : Value) (l : List CV) (w : World) (hR : Rc w v l) (hlen : l.length ≤ 1048576) :
    Calls Try.prog 130 #[v, .func (.func 131) #[] #[]] w fun e w' => e = .returned (.bool !(allC l)) ∧ Below w.heap.size w w' := by
  go_enter Try.func130, Try.ntmps130
  go_wp2_with (go_at_call 143; refine (indexC_any _ _ _ hR hlen).mono ?_; rintro e w1 ⟨r, rfl, hr, hb⟩; have HR := Lib.hid hr; clear hr)
  go_ret
  exact ⟨by rw [← HR.out]; rfl, hb⟩

set_option maxRecDepth 100000 in
set_option maxHeartbeats 400000 in
theorem rowI_any (v : Value) (l : List CV) (q : Bool) (w : World) (hR : Rc w v l) (hlen : l.length ≤ 1048576) (h : rowB l = q) :
    Calls Try.prog 97 #[v] w fun e w' => e = .returned (.bool q) ∧ Below w.heap.size w w' := by
  obtain ⟨a, c, rfl⟩ := hR.form
  unfold rowB at h
  by_cases h1 : 1 ≤ l.length ∧ l.length ≤ 64
  · rw [decide_eq_true h1, Bool.true_and] at h
    have HQ := Lib.hid h
    have HD := Lib.hid (decide_eq_true (show (1 : Int) ≤ l.length ∧ (l.length : Int) ≤ 64 by omega))
    clear h h1
    go_enter Try.func97, Try.ntmps97
    go_wp2_with (first | (go_at_call 88; refine (withinI_any _ _ _ true _ HD.out).mono ?_; rintro e w' ⟨rfl, rfl⟩) | (go_at_call 130; refine (containsC_any _ _ _ hR hlen).mono ?_; rintro e w1 ⟨rfl, hb⟩))
    go_ret
    exact ⟨by rw [← HQ.out]; simp, hb⟩
  · rw [decide_eq_false h1, Bool.false_and] at h
    have HD := Lib.hid (decide_eq_false (show ¬ ((1 : Int) ≤ l.length ∧ (l.length : Int) ≤ 64) by omega))
    subst h
    clear h1
    go_enter Try.func97, Try.ntmps97
    go_wp2_with (go_at_call 88; refine (withinI_any _ _ _ false _ HD.out).mono ?_; rintro e w' ⟨rfl, rfl⟩)
    go_ret
    exact ⟨rfl, Below.refl _ _⟩

set_option maxRecDepth 100000 in
set_option maxHeartbeats 400000 in
theorem rowS_any (v : Value) (l : List CV) (q : Bool) (w : World) (hR : Rc w v l) (hlen : l.length ≤ 1048576) (h : rowB l = q) :
    Calls Try.prog 61 #[v] w fun e w' => e = .returned (.bool q) ∧ Below w.heap.size w w' := by
  have HQ := Lib.hid h
  clear h
  rcases hR with ⟨o, c, rfl, rfl⟩ | ⟨b, off, cap, rfl, h1, h2, hc⟩
  · have HD := Lib.hid (decide_eq_false (show ¬ ((1 : Int) ≤ 0 ∧ (0 : Int) ≤ 64) by omega))
    go_enter Try.func61, Try.ntmps61
    go_wp2
    refine wp_loop_rounds 1 ?_
    rw [rounds_succ]
    go_wp2_with (go_at_call 85; refine (inI_any _ _ _ false _ HD.out).mono ?_; rintro e w' ⟨rfl, rfl⟩)
    go_ret
    exact ⟨by rw [← HQ.out]; rfl, Below.refl _ _⟩
  · have HC := Lib.hid hc
    clear hc
    go_enter Try.func61, Try.ntmps61
    go_wp2
    go_loopw [3] (fun i wr => ∃ j : Nat, j ≤ l.length ∧ i = .int .i64 j ∧ allC (l.take j) = true ∧ Below w.heap.size w wr) (fun i _ => l.length - (intOf i).toNat)
    case atStart => exact ⟨0, Nat.zero_le _, rfl, rfl, Below.refl _ _⟩
    case round =>
      obtain ⟨j, hj, rfl, hall, hbw⟩ := hrel
      have HA := Lib.hid hall
      clear hall
      by_cases hlt : j < l.length
      · obtain ⟨hcell, hcell2⟩ := HC.out j hlt
        rw [← hbw.cell (p := ⟨b, off + j * 2, none⟩) (World.block_lt_of_cell? _ _ hcell)] at hcell
        rw [← hbw.cell (p := ⟨b, off + j * 2 + 1, none⟩) (World.block_lt_of_cell? _ _ hcell2)] at hcell2
        have ht := Lib.hid (allC_take l j hlt)
        have hf := Lib.hid (allC_false l j hlt)
        generalize l.getD j c0 = x at *
        obtain ⟨y, re, im⟩ := x
        obtain ⟨p, hp⟩ : ∃ p, cellB (y, re, im) = p := ⟨_, rfl⟩
        have HP := Lib.hid hp
        clear hp
        dsimp only at hcell hcell2
        cases p
        · go_wp2_with (go_at_call 107; refine (cellS_any (y, re, im) false _ HP.out).mono ?_; rintro e w1 ⟨rfl, hb1⟩)
          go_ret
          refine ⟨?_, hbw.trans (hb1.mono hbw.size)⟩
          rw [← HQ.out]; unfold rowB; rw [hf.out HP.out, Bool.and_false]; rfl
        · go_wp2_with (go_at_call 107; refine (cellS_any (y, re, im) true _ HP.out).mono ?_; rintro e w1 ⟨rfl, hb1⟩)
          go_roundw
          case rel => exact ⟨j + 1, by omega, by go_num, by rw [ht.out, HA.out, HP.out]; rfl, hbw.trans (hb1.mono hbw.size)⟩
          case measure => simp [intOf]; omega
      · have hke : j = l.length := by omega
        subst hke
        have hA2 := HA.out
        rw [List.take_of_length_le (Nat.le_refl _)] at hA2
        have hq2 := HQ.out
        unfold rowB at hq2
        rw [hA2, Bool.and_true] at hq2
        have HD := Lib.hid (show decide ((1 : Int) ≤ l.length ∧ (l.length : Int) ≤ 64) = q by rw [← hq2]; congr 1; apply propext; omega)
        clear hq2 hA2
        go_wp2_with (go_at_call 85; refine (inI_any _ _ _ q _ HD.out).mono ?_; rintro e w' ⟨rfl, rfl⟩)
        go_ret
        exact ⟨rfl, hbw⟩

end Go.Proofs.Ytbjllfnjecggfaa
