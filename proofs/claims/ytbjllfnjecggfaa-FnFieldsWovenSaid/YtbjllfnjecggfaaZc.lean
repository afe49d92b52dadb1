/- Walk: the reference's PictureOk. -/
import Derived.Test.YtbjllfnjecggfaaZb
namespace Go.Proofs.Ytbjllfnjecggfaa
open Go.RowKit
attribute [local irreducible] wpQuiet

set_option maxRecDepth 100000 in
set_option maxHeartbeats 1000000 in
theorem picS_any (v : Value) (L : Pic) (q : Bool) (w : World) (hR : Rp w v L) (hrow : ∀ i, i < L.length → (L.getD i []).length ≤ 1048576) (hq : picB L = q) :
    Calls Try.prog 73 #[v] w fun e w' => e = .returned (.bool q) ∧ Below w.heap.size w w' := by
  have HQ := Lib.hid hq
  have HRow := Lib.hid hrow
  clear hq hrow
  by_cases h64 : 4 ≤ L.length ∧ L.length ≤ 64
  · have HD := Lib.hid (decide_eq_true (show (4 : Int) ≤ (L.length : Int) ∧ (L.length : Int) ≤ 64 by omega))
    rcases hR with ⟨e, _⟩ | ⟨b, off, cap, rfl, hc⟩
    · subst e; simp at h64
    have HC := Lib.hid hc
    have hm := mod4_nat L.length
    obtain ⟨r, hr⟩ : ∃ r, L.length % 4 = r := ⟨_, rfl⟩
    rw [hr] at hm
    have H64 := Lib.hid h64
    have HR4 := Lib.hid hr
    have hl4 : 4 ≤ L.length := h64.1
    have hl64 : L.length ≤ 64 := h64.2
    have hme : (L.length : Int) % 4 = (r : Int) := by omega
    clear hc h64 hr
    by_cases h4 : r = 0
    · subst h4
      go_enter Try.func73, Try.ntmps73
      go_wp2_with fail
      refine (inI_any _ _ _ true _ HD.out).mono ?_
      rintro e w' ⟨rfl, rfl⟩
      go_wp2
      go_loopw [3] (fun i wr => ∃ j : Nat, j ≤ L.length ∧ i = .int .i64 j ∧ Hid ((L.take j).all (okR L) = true) ∧ Below w.heap.size w wr) (fun i _ => L.length - (intOf i).toNat)
      case atStart => exact ⟨0, Nat.zero_le _, rfl, Lib.hid rfl, Below.refl _ _⟩
      case round =>
        obtain ⟨j, hj, rfl, had, hbw⟩ := hrel
        by_cases hlt : j < L.length
        · obtain ⟨a, c, g1, g2⟩ := HC.out j hlt
          obtain ⟨a0, c0', g3, g4⟩ := HC.out 0 (by omega)
          rw [← hbw.cell (p := ⟨b, off + j, none⟩) (World.block_lt_of_cell? _ _ g1)] at g1
          have G2 := Lib.hid (g2.below hbw)
          have G3 := Lib.hid (show wr.cell? ⟨b, off, none⟩ = some (.slice a0 (L.getD 0 []).length c0') from (hbw.cell (p := ⟨b, off, none⟩) (World.block_lt_of_cell? _ _ g3)).trans g3)
          have HT := Lib.hid (take_all_snoc (L := L) (p := okR L) hlt)
          have HN := Lib.hid (picB_no (L := L) (j := j) hlt)
          have hrl := HRow.out j hlt
          obtain ⟨q1, hq1⟩ : ∃ q1, rowB (L.getD j []) = q1 := ⟨_, rfl⟩
          have H1 := Lib.hid hq1
          clear g2 g3 g4 hq1
          obtain ⟨l, hl⟩ : ∃ l, l = L.getD j [] := ⟨_, rfl⟩
          rw [← hl] at g1 G2 HT HN hrl H1
          obtain ⟨l0, hl0⟩ : ∃ l0, l0 = L.getD 0 [] := ⟨_, rfl⟩
          rw [← hl0] at G3
          have HL0 := Lib.hid hl0
          clear hl hl0
          have G3o := G3.out
          have hpos : 0 < L.length := by omega
          have r1 := cell_regrown g1
          have r3 := cell_regrown G3o
          have HF : ∀ d os, Calls Try.prog 61 #[.slice a l.length c] (Sort.grow (redrawn wr d) os) fun e w'' => e = .returned (.bool q1) ∧ ∃ p : Regrown, w'' = Sort.grow (redrawn wr p.d) p.os := fun d os => Calls.regrown_of (rowS_any _ l q1 _ (G2.out.below (below_regrown wr d os)) hrl H1.out)
          cases q1
          · have hqf : q = false := by
              rw [← HQ.out]
              exact HN.out (by unfold okR; rw [H1.out]; rfl)
            subst hqf
            go_wp2_with fail
            refine wp_region_quiet_below (by kernel_rfl) (by kernel_rfl) ?_
            iterate 18 (refine wpQuiet_step (fun K hK => ?_); go_simp; first | (refine ⟨_, fun p => HF p.d p.os, hK _ ?_⟩; clear hK K) | (refine hK _ ?_; clear hK K))
            refine wpQuiet_nil ?_
            intro _ hw2
            obtain ⟨⟨dq, osq⟩, hw3⟩ := hw2
            subst hw3
            have hb := hbw.trans ((below_regrown wr dq osq).mono hbw.size)
            clear HF r1 r3
            go_wp2
            go_ret
            exact ⟨rfl, hb⟩
          · by_cases hll : l.length = l0.length
            · have hok : Hid (okR L l = true) := Lib.hid (by unfold okR; rw [H1.out, ← HL0.out, decide_eq_true hll]; rfl)
              have hne : ((l.length : Int) != (l0.length : Int)) = false := by rw [hll]; simp
              clear hll
              go_wp2_with fail
              refine wp_region_quiet_below (by kernel_rfl) (by kernel_rfl) ?_
              iterate 18 (refine wpQuiet_step (fun K hK => ?_); go_simp; first | (refine ⟨_, fun p => HF p.d p.os, hK _ ?_⟩; clear hK K) | (refine hK _ ?_; clear hK K))
              refine wpQuiet_nil ?_
              intro _ hw2
              obtain ⟨⟨dq, osq⟩, hw3⟩ := hw2
              subst hw3
              have hb := hbw.trans ((below_regrown wr dq osq).mono hbw.size)
              clear HF r1 r3
              go_wp2
              go_roundw
              case rel => exact ⟨j + 1, by omega, by go_num, Lib.hid (by rw [HT.out, had.out, hok.out]; rfl), hb⟩
              case measure => simp [intOf]; omega
            · have hqf : q = false := by
                rw [← HQ.out]
                exact HN.out (by unfold okR; rw [H1.out, ← HL0.out, decide_eq_false hll]; rfl)
              subst hqf
              have hne : ((l.length : Int) != (l0.length : Int)) = true := by simp; omega
              clear hll
              go_wp2_with fail
              refine wp_region_quiet_below (by kernel_rfl) (by kernel_rfl) ?_
              iterate 18 (refine wpQuiet_step (fun K hK => ?_); go_simp; first | (refine ⟨_, fun p => HF p.d p.os, hK _ ?_⟩; clear hK K) | (refine hK _ ?_; clear hK K))
              refine wpQuiet_nil ?_
              intro _ hw2
              obtain ⟨⟨dq, osq⟩, hw3⟩ := hw2
              subst hw3
              have hb := hbw.trans ((below_regrown wr dq osq).mono hbw.size)
              clear HF r1 r3
              go_wp2
              go_ret
              exact ⟨rfl, hb⟩
        · have hje : j = L.length := by omega
          subst hje
          have hqt : q = true := by
            rw [← HQ.out]
            have := had.out
            rw [List.take_of_length_le (Nat.le_refl _)] at this
            exact picB_yes H64.out HR4.out this
          subst hqt
          go_wp2
          go_ret
          exact ⟨rfl, hbw⟩
    · have hqf : q = false := by rw [← HQ.out, picB_four (by rw [HR4.out]; exact h4)]
      subst hqf
      have hr0 : ((r : Int) != 0) = true := by simp; omega
      clear h4
      go_enter Try.func73, Try.ntmps73
      go_wp2_with fail
      refine (inI_any _ _ _ true _ HD.out).mono ?_
      rintro e w' ⟨rfl, rfl⟩
      go_wp2
      go_ret
      exact ⟨rfl, Below.refl _ _⟩
  · have HD := Lib.hid (decide_eq_false (show ¬ ((4 : Int) ≤ (L.length : Int) ∧ (L.length : Int) ≤ 64) by omega))
    have hqf : q = false := by rw [← HQ.out, picB_len h64]
    subst hqf
    obtain ⟨a, c, rfl⟩ := hR.form
    clear h64 hR
    go_enter Try.func73, Try.ntmps73
    go_wp2_with fail
    refine (inI_any _ _ _ false _ HD.out).mono ?_
    rintro e w' ⟨rfl, rfl⟩
    go_wp2
    go_ret
    exact ⟨rfl, Below.refl _ _⟩
end Go.Proofs.Ytbjllfnjecggfaa
