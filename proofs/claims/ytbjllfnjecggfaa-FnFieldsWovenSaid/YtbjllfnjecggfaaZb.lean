/- Walks: PictureOk, the program's and the reference's. -/
import Derived.Test.YtbjllfnjecggfaaZa
namespace Go.Proofs.Ytbjllfnjecggfaa
open Go.RowKit

def okR (L : Pic) (l : List CV) : Bool := rowB l && decide (l.length = (L.getD 0 []).length)
theorem picB_len {L : Pic} (h : ¬ (4 ≤ L.length ∧ L.length ≤ 64)) : picB L = false := by unfold picB; rw [decide_eq_false h]; rfl
theorem picB_four {L : Pic} (h : ¬ L.length % 4 = 0) : picB L = false := by unfold picB; rw [decide_eq_false h]; simp
theorem picB_no {L : Pic} {j : Nat} (hj : j < L.length) (h : okR L (L.getD j []) = false) : picB L = false := by
  have hm : L.getD j [] ∈ L := by
    have e : L.getD j [] = L[j] := by simp [List.getD, hj]
    rw [e]; exact List.getElem_mem hj
  have : (L.all fun l => rowB l && decide (l.length = (L.getD 0 []).length)) = false := by
    rw [List.all_eq_false]
    exact ⟨_, hm, by unfold okR at h; rw [h]; simp⟩
  unfold picB
  rw [this]; simp
theorem picB_yes {L : Pic} (h1 : 4 ≤ L.length ∧ L.length ≤ 64) (h2 : L.length % 4 = 0) (h3 : L.all (okR L) = true) : picB L = true := by
  unfold picB
  rw [decide_eq_true h1, decide_eq_true h2]
  exact h3
theorem take_all_snoc {L : Pic} {p : List CV → Bool} {j : Nat} (hj : j < L.length) : (L.take (j + 1)).all p = ((L.take j).all p && p (L.getD j [])) := by
  rw [List.take_add_one, List.getElem?_eq_getElem hj, List.all_append]
  simp [List.getD, hj]
theorem mod4_nat (n : Nat) : (n : Int).tmod 4 = ((n % 4 : Nat) : Int) := by rw [Int.tmod_eq_emod_of_nonneg (by omega)]; omega
set_option maxRecDepth 100000 in
set_option maxHeartbeats 1000000 in
theorem picI_any (v : Value) (L : Pic) (q : Bool) (w : World) (hR : Rp w v L) (hrow : ∀ i, i < L.length → (L.getD i []).length ≤ 1048576) (hq : picB L = q) :
    Calls Try.prog 119 #[v] w fun e w' => e = .returned (.bool q) ∧ Below w.heap.size w w' := by
  have HQ := Lib.hid hq
  have HRow := Lib.hid hrow
  clear hq hrow
  by_cases h64 : 4 ≤ L.length ∧ L.length ≤ 64
  · have HD := Lib.hid (decide_eq_true (show (4 : Int) ≤ (L.length : Int) ∧ (L.length : Int) ≤ 64 by omega))
    rcases hR with ⟨e, _⟩ | ⟨b, off, cap, rfl, hc⟩
    · subst e; simp at h64
    have HC := Lib.hid hc
    have hm := mod4_nat L.length
    obtain ⟨r, hr⟩ : ∃ r, L.length % 4 = r := ⟨_, rfl⟩
    rw [hr] at hm
    have H64 := Lib.hid h64
    have HR4 := Lib.hid hr
    have hl4 : 4 ≤ L.length := h64.1
    have hl64 : L.length ≤ 64 := h64.2
    have hme : (L.length : Int) % 4 = (r : Int) := by omega
    clear hc h64 hr
    by_cases h4 : r = 0
    · subst h4
      go_enter Try.func119, Try.ntmps119
      go_wp2_with fail
      refine (withinI_any _ _ _ true _ HD.out).mono ?_
      rintro e w' ⟨rfl, rfl⟩
      go_wp2
      go_loopw [4, 17] (fun _ i wr => ∃ j : Nat, j ≤ L.length ∧ i = .int .i64 j ∧ Hid ((L.take j).all (okR L) = true) ∧ Below w.heap.size w wr) (fun _ i _ => L.length - (intOf i).toNat)
      case atStart => exact ⟨0, Nat.zero_le _, rfl, Lib.hid rfl, Below.refl _ _⟩
      case round =>
        obtain ⟨j, hj, rfl, had, hbw⟩ := hrel
        by_cases hlt : j < L.length
        · obtain ⟨a, c, g1, g2⟩ := HC.out j hlt
          obtain ⟨a0, c0', g3, g4⟩ := HC.out 0 (by omega)
          rw [← hbw.cell (p := ⟨b, off + j, none⟩) (World.block_lt_of_cell? _ _ g1)] at g1
          have G2 := Lib.hid (g2.below hbw)
          have G3 := Lib.hid (show wr.cell? ⟨b, off, none⟩ = some (.slice a0 (L.getD 0 []).length c0') from (hbw.cell (p := ⟨b, off, none⟩) (World.block_lt_of_cell? _ _ g3)).trans g3)
          have HT := Lib.hid (take_all_snoc (L := L) (p := okR L) hlt)
          have HN := Lib.hid (picB_no (L := L) (j := j) hlt)
          have hrl := HRow.out j hlt
          obtain ⟨q1, hq1⟩ : ∃ q1, rowB (L.getD j []) = q1 := ⟨_, rfl⟩
          have H1 := Lib.hid hq1
          clear g2 g3 g4 hq1
          obtain ⟨l, hl⟩ : ∃ l, l = L.getD j [] := ⟨_, rfl⟩
          rw [← hl] at g1 G2 HT HN hrl H1
          obtain ⟨l0, hl0⟩ : ∃ l0, l0 = L.getD 0 [] := ⟨_, rfl⟩
          rw [← hl0] at G3
          have HL0 := Lib.hid hl0
          clear hl hl0
          go_wp2_with fail
          refine (rowI_any _ l q1 _ G2.out hrl H1.out).mono ?_
          rintro e w6 ⟨rfl, hb6⟩
          have g3 := (hb6.cell (p := ⟨b, off, none⟩) (World.block_lt_of_cell? _ _ G3.out)).trans G3.out
          have hb := hbw.trans (hb6.mono hbw.size)
          clear hb6 hbw g1
          cases q1
          · have hqf : q = false := by
              rw [← HQ.out]
              exact HN.out (by unfold okR; rw [H1.out]; rfl)
            subst hqf
            go_wp2
            go_ret
            exact ⟨rfl, hb⟩
          · by_cases hll : l.length = l0.length
            · have hok : Hid (okR L l = true) := Lib.hid (by unfold okR; rw [H1.out, ← HL0.out, decide_eq_true hll]; rfl)
              have hne : ((l.length : Int) != (l0.length : Int)) = false := by rw [hll]; simp
              clear hll
              go_wp2
              go_roundw
              case rel => exact ⟨j + 1, by omega, by go_num, Lib.hid (by rw [HT.out, had.out, hok.out]; rfl), hb⟩
              case measure => simp [intOf]; omega
            · have hqf : q = false := by
                rw [← HQ.out]
                exact HN.out (by unfold okR; rw [H1.out, ← HL0.out, decide_eq_false hll]; rfl)
              subst hqf
              have hne : ((l.length : Int) != (l0.length : Int)) = true := by simp; omega
              clear hll
              go_wp2
              go_ret
              exact ⟨rfl, hb⟩
        · have hje : j = L.length := by omega
          subst hje
          have hqt : q = true := by
            rw [← HQ.out]
            have := had.out
            rw [List.take_of_length_le (Nat.le_refl _)] at this
            exact picB_yes H64.out HR4.out this
          subst hqt
          go_wp2
          go_ret
          exact ⟨rfl, hbw⟩
    · have hqf : q = false := by rw [← HQ.out, picB_four (by rw [HR4.out]; exact h4)]
      subst hqf
      have hr0 : ((r : Int) != 0) = true := by simp; omega
      clear h4
      go_enter Try.func119, Try.ntmps119
      go_wp2_with fail
      refine (withinI_any _ _ _ true _ HD.out).mono ?_
      rintro e w' ⟨rfl, rfl⟩
      go_wp2
      go_ret
      exact ⟨rfl, Below.refl _ _⟩
  · have HD := Lib.hid (decide_eq_false (show ¬ ((4 : Int) ≤ (L.length : Int) ∧ (L.length : Int) ≤ 64) by omega))
    have hqf : q = false := by rw [← HQ.out, picB_len h64]
    subst hqf
    obtain ⟨a, c, rfl⟩ := hR.form
    clear h64 hR
    go_enter Try.func119, Try.ntmps119
    go_wp2_with fail
    refine (withinI_any _ _ _ false _ HD.out).mono ?_
    rintro e w' ⟨rfl, rfl⟩
    go_wp2
    go_ret
    exact ⟨rfl, Below.refl _ _⟩
end Go.Proofs.Ytbjllfnjecggfaa
