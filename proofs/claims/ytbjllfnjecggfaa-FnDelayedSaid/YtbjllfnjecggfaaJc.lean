/- Walks: the drawing of samples and a number of cells. The law FnDelayed returns true. -/
import Derived.Test.YtbjllfnjecggfaaJb
import Derived.Test.YtbjllfnjecggfaaGl
import Derived.Test.YtbjllfnjecggfaaTv
namespace Go.Proofs.Ytbjllfnjecggfaa
open Go.RowKit

theorem delayed_at (xs : List Nat) (d j : Nat) (h : j < xs.length) : (delayed xs d)[j]? = some (if j < d then 0 else xs.getD (j - d) 0) := by
  unfold delayed
  rw [List.getElem?_take, if_pos h]
  by_cases hd : j < d
  · rw [if_pos hd, List.getElem?_append_left (by rw [List.length_replicate]; exact hd), List.getElem?_replicate, if_pos hd]
  · rw [if_neg hd, List.getElem?_append_right (by rw [List.length_replicate]; omega), List.length_replicate, List.getElem?_eq_getElem (by omega)]
    simp [List.getD, show j - d < xs.length by omega]
theorem delayed_zero (xs : List Nat) : delayed xs 0 = xs := by unfold delayed; simp
theorem delayed_two (xs : List Nat) (a b : Nat) : delayed (delayed xs a) b = delayed xs (a + b) := by
  apply List.ext_getElem?
  intro j
  by_cases h : j < xs.length
  · rw [delayed_at _ _ _ (by rw [delayed_len]; exact h), delayed_at _ _ _ h]
    congr 1
    by_cases hb : j < b
    · rw [if_pos hb, if_pos (by omega)]
    · rw [if_neg hb, List.getD_eq_getElem?_getD, delayed_at _ _ _ (by omega), Option.getD_some]
      by_cases ha : j - b < a
      · rw [if_pos ha, if_pos (by omega)]
      · rw [if_neg ha, if_neg (by omega)]
        congr 1
        omega
  · rw [List.getElem?_eq_none (by rw [delayed_len, delayed_len]; omega), List.getElem?_eq_none (by rw [delayed_len]; omega)]
/-- samples that are drawn, and a number of cells -/
def DdPost (w : World) (e : Ending) (w' : World) : Prop := ∃ r zs n, e = .returned (.tuple #[r, .int .i64 n]) ∧ Of w' w.heap.size r zs ∧ zs.length ≤ 263 ∧ (-1 ≤ n ∧ n ≤ 65 ∨ n = 9223372036854775807) ∧ Below w.heap.size w w'
theorem cells_at4 (w : World) (t : TypeId) : ∀ j, j < 4 → (w.alloc (.cells #[.int .i64 (-1), .int .i64 64, .int .i64 65, .int .i64 9223372036854775807] t)).cell? ⟨w.heap.size, j, none⟩ = some (.int .i64 (([-1, 64, 65, 9223372036854775807] : List Int).getD j 0)) := by
  intro j hj
  match j with
  | 0 | 1 | 2 | 3 => simp
  | n + 4 => omega
theorem pick4 : ∀ j, j < 4 → (-1 ≤ ([-1, 64, 65, 9223372036854775807] : List Int).getD j 0 ∧ ([-1, 64, 65, 9223372036854775807] : List Int).getD j 0 ≤ 65 ∨ ([-1, 64, 65, 9223372036854775807] : List Int).getD j 0 = 9223372036854775807) := by decide
set_option maxRecDepth 100000 in
set_option maxHeartbeats 1000000 in
theorem drawDelay (a : Option Addr) (n cap : Nat) (w : World) (hB : By w.heap.size w a n) (hn : n ≤ 1048576) :
    Calls Try.prog 66 #[.slice a n cap] w (DdPost w) := by
  go_enter Try.func66, Try.ntmps66
  go_wp2_with fail
  refine (new_any w.heap.size a n cap w hB hn (Nat.le_refl _)).mono ?_
  rintro e w1 ⟨g, rfl, hc, hg1, hg2, hb1⟩
  have HC := Lib.hid hc
  have hs1 := hb1.size
  clear hc
  go_wp2_with fail
  refine (samples_any _ g a n cap _ HC.out).mono ?_
  rintro e w2 ⟨r, zs, rfl, hr, hl, hc, ho⟩
  have hs2 := ho.size
  have HB2 := Lib.hid (hb1.trans (below_of_only ho hb1.size (fun k hk => by omega)))
  have HC2 := Lib.hid hc
  have hglt := HC.out.lt
  have HG := Lib.hid (show ∀ k, r.ownBlock = some k → g ≠ k from fun k hk e => by
    have := (hr.lt k hk).1
    omega)
  have HR := Lib.hid (show Of w2 w.heap.size r zs from own_base hr hs1)
  clear hc ho HC hr hb1
  go_wp2_with fail
  refine (once_any _ g a n cap _ _ HC2.out (by omega) (by omega)).mono ?_
  rintro e w3 ⟨q, rfl, hc, ho⟩
  have h1 : Of w3 w.heap.size r zs := ho.kept HR.out HG.out
  have HR3 := Lib.hid h1
  have HB3 := Lib.hid (HB2.out.trans (below_of_only ho HB2.out.size (fun k hk => by omega)))
  have HC3 := Lib.hid hc
  clear hc ho HC2 HR HB2 h1
  cases q
  · go_wp2_with fail
    refine (below_any _ g a n cap _ _ HC3.out (by omega) (by omega)).mono ?_
    rintro e w4 ⟨x, rfl, x0, x1, hc, ho⟩
    rw [if_neg (by omega)] at x1
    have h1 : Of w4 w.heap.size r zs := ho.kept HR3.out HG.out
    have hb4 := HB3.out.trans (below_of_only ho HB3.out.size (fun k hk => by omega))
    clear hc ho HC3 HR3 HB3
    go_wp2
    go_ret2
    exact ⟨_, zs, x, rfl, h1, hl, .inl ⟨by omega, by omega⟩, hb4⟩
  · have hlt := HC3.out.lt
    go_wp2_with fail
    refine (pick_in _ g a n cap w3.heap.size [-1, 64, 65, 9223372036854775807] _ (HC3.out.alloc hlt _) (by simp) (by simp) (by omega) (by decide) (cells_at4 w3 _)).mono ?_
    rintro e w4 ⟨j, hj, rfl, hc, ho⟩
    have h0 := HR3.out.below ((Below.refl _ w3).alloc (Nat.le_refl _) (.cells #[.int .i64 (-1), .int .i64 64, .int .i64 65, .int .i64 9223372036854775807] 3))
    have h1 : Of w4 w.heap.size r zs := ho.kept h0 HG.out
    have hb' := HB3.out.alloc HB3.out.size (.cells #[.int .i64 (-1), .int .i64 64, .int .i64 65, .int .i64 9223372036854775807] 3)
    have hb4 := hb'.trans (below_of_only ho hb'.size (fun k hk => by omega))
    have hv : -1 ≤ ([-1, 64, 65, 9223372036854775807] : List Int).getD j 0 ∧ ([-1, 64, 65, 9223372036854775807] : List Int).getD j 0 ≤ 65 ∨ ([-1, 64, 65, 9223372036854775807] : List Int).getD j 0 = 9223372036854775807 := by
      have hj4 : j < 4 := hj
      exact pick4 j hj4
    generalize ([-1, 64, 65, 9223372036854775807] : List Int).getD j 0 = x at *
    have HV := Lib.hid hv
    clear hc ho HC3 HR3 HB3 h0 hb' hv
    go_wp2
    go_ret2
    exact ⟨_, zs, x, rfl, h1, hl, HV.out, hb4⟩
theorem sw_refl (a : List Nat) : Sw a a := rfl
/-- Delay at any number of cells -/
def DlPost (zs : List Nat) (n : Int) (ok : Bool) (w : World) (e : Ending) (w' : World) : Prop :=
  ∃ r, e = .returned (.tuple #[r, .bool ok]) ∧ Of w' w.heap.size r (if ok = true then delayed zs (4 * n.toNat) else []) ∧ Below w.heap.size w w'
theorem delayI_all (v : Value) (zs : List Nat) (n : Int) (ok : Bool) (w : World) (hR : Rf w v zs) (hlen : zs.length ≤ 1048576) (hok : decide (0 ≤ n ∧ n ≤ 64) = ok) : Calls Try.prog 34 #[v, .int .i64 n] w (DlPost zs n ok w) := by
  unfold DlPost
  subst hok
  by_cases h : 0 ≤ n ∧ n ≤ 64
  · rw [decide_eq_true h, if_pos rfl]
    have := delayI_yes v zs n.toNat w hR hlen (by omega)
    rw [show ((n.toNat : Nat) : Int) = n by omega] at this
    exact this
  · rw [decide_eq_false h, if_neg (by simp)]
    exact delayI_no v zs n w hR h
set_option maxRecDepth 100000 in
set_option maxHeartbeats 1000000 in
theorem lawDl_small (a : Option Addr) (n cap : Nat) (w : World) (hB : By w.heap.size w a n) (hn : n ≤ 1048576) :
    Calls Try.prog 17 #[.slice a n cap] w fun e w' => e = .returned (.bool true) ∧ Below w.heap.size w w' := by
  have hk := drawDelay a n cap w hB hn
  have HK := Lib.hid hk
  clear hB hk
  go_enter Try.func17, Try.ntmps17
  go_wp2_with fail
  refine (big_no a n cap w hn).mono ?_
  rintro e w0 ⟨rfl, rfl⟩
  go_wp2_with fail
  refine HK.out.mono ?_
  rintro e w1 ⟨s, zs, m, rfl, hs, hl, hm, hb⟩
  have B1 := Lib.hid hb
  have S1 := Lib.hid hs.rf
  clear HK hb hs
  obtain ⟨okm, hokm⟩ : ∃ ok, decide (0 ≤ m ∧ m ≤ 64) = ok := ⟨_, rfl⟩
  obtain ⟨m2, hm2⟩ : ∃ m2, wrap64 (m + 2) = m2 := ⟨_, rfl⟩
  obtain ⟨okd, hokd⟩ : ∃ ok, decide (0 ≤ m2 ∧ m2 ≤ 64) = ok := ⟨_, rfl⟩
  have HOK := Lib.hid hokm
  have HOD := Lib.hid hokd
  have HM := Lib.hid hm
  have HM2 := Lib.hid (show m2 = if m = 9223372036854775807 then -9223372036854775807 else m + 2 by
    rw [← hm2]
    unfold wrap64
    split <;> omega)
  clear hm hokm hokd
  go_wp2_with fail
  refine (delayI_all s zs 0 true _ S1.out (by omega) rfl).mono ?_
  rintro e w2 ⟨r2, rfl, hr, hb⟩
  rw [if_pos rfl, show 4 * (0 : Int).toNat = 0 from rfl, delayed_zero] at hr
  have B2 := Lib.hid (B1.out.trans (hb.mono B1.out.size))
  have S2 := Lib.hid (S1.out.below hb)
  have A2 := Lib.hid hr.rf
  clear hb hr S1 B1
  go_wp2_with fail
  refine (delayI_all s zs m okm _ S2.out (by omega) HOK.out).mono ?_
  rintro e w3 ⟨r3, rfl, hr, hb⟩
  obtain ⟨ys, hys⟩ : ∃ ys, (if okm = true then delayed zs (4 * m.toNat) else []) = ys := ⟨_, rfl⟩
  rw [hys] at hr
  have hyl : ys.length ≤ 263 := by
    rw [← hys]; split
    · rw [delayed_len]; exact hl
    · simp
  have HY := Lib.hid hys
  have B3 := Lib.hid (B2.out.trans (hb.mono B2.out.size))
  have S3 := Lib.hid (S2.out.below hb)
  have A3 := Lib.hid (A2.out.below hb)
  have Y3 := Lib.hid hr.rf
  clear hb hr S2 B2 A2 hys
  go_wp2_with fail
  refine (delayI_all r3 ys 2 true _ Y3.out (by omega) rfl).mono ?_
  rintro e w4 ⟨r4, rfl, hr, hb⟩
  rw [if_pos rfl, show 4 * (2 : Int).toNat = 8 from rfl] at hr
  have B4 := Lib.hid (B3.out.trans (hb.mono B3.out.size))
  have S4 := Lib.hid (S3.out.below hb)
  have A4 := Lib.hid (A3.out.below hb)
  have Z4 := Lib.hid hr.rf
  clear hb hr S3 B3 A3 Y3
  go_wp2_with fail
  refine (delayI_all s zs m2 okd _ S4.out (by omega) HOD.out).mono ?_
  rintro e w5 ⟨r5, rfl, hr, hb⟩
  obtain ⟨xs, hxs⟩ : ∃ xs, (if okd = true then delayed zs (4 * m2.toNat) else []) = xs := ⟨_, rfl⟩
  rw [hxs] at hr
  have HX := Lib.hid hxs
  have B5 := Lib.hid (B4.out.trans (hb.mono B4.out.size))
  have S5 := Lib.hid (S4.out.below hb)
  have A5 := Lib.hid (A4.out.below hb)
  have Z5 := Lib.hid (Z4.out.below hb)
  have X5 := Lib.hid hr.rf
  clear hb hr S4 B4 A4 Z4 hxs
  go_wp2_with fail
  refine (sameSamples_any r2 s zs zs _ A5.out S5.out (sw_refl _) (by omega)).mono ?_
  rintro e w6 ⟨rfl, hb⟩
  have B6 := Lib.hid (B5.out.trans (hb.mono B5.out.size))
  have Z6 := Lib.hid (Z5.out.below hb)
  have X6 := Lib.hid (X5.out.below hb)
  clear hb B5 S5 A5 Z5 X5 hm2
  cases okm
  · have h0 := of_decide_eq_false HOK.out
    have hB6 := B6.out
    by_cases hm0 : 0 ≤ m
    · have hm1 : 64 < m := by omega
      clear h0
      go_wp2
      go_ret
      exact ⟨rfl, hB6⟩
    · have hm1 : m < 0 := by omega
      clear h0
      go_wp2
      go_ret
      exact ⟨rfl, hB6⟩
  · obtain ⟨k0, k1⟩ := of_decide_eq_true HOK.out
    cases okd
    · have hB6 := B6.out
      go_wp2
      go_ret
      exact ⟨rfl, hB6⟩
    · have hd := of_decide_eq_true HOD.out
      have hmm := HM2.out
      rw [if_neg (by omega)] at hmm
      have hsw : Sw (delayed ys 8) xs := by
        have e1 := HY.out
        have e2 := HX.out
        rw [if_pos rfl] at e1 e2
        rw [← e1, ← e2, delayed_two, show 4 * m.toNat + 8 = 4 * m2.toNat by omega]
        exact sw_refl _
      have hl2 : (delayed ys 8).length ≤ 1048576 := by rw [delayed_len]; omega
      clear hd hmm
      go_wp2_with fail
      refine (sameSamples_any r4 r5 _ xs _ Z6.out X6.out hsw hl2).mono ?_
      rintro e w7 ⟨rfl, hb⟩
      have hB7 := B6.out.trans (hb.mono B6.out.size)
      clear hb
      go_wp2
      go_ret
      exact ⟨rfl, hB7⟩
set_option maxRecDepth 100000 in
set_option maxHeartbeats 1000000 in
theorem lawDl_big (a : Option Addr) (n cap : Nat) (w : World) (hn : 1048576 < n) :
    Calls Try.prog 17 #[.slice a n cap] w fun e w' => e = .returned (.bool true) ∧ Below w.heap.size w w' := by
  go_enter Try.func17, Try.ntmps17
  go_wp2_with fail
  refine (big_yes a n cap w hn).mono ?_
  rintro e w1 ⟨rfl, rfl⟩
  go_wp2_with fail
  go_ret
  exact ⟨rfl, Below.refl _ _⟩
theorem lawDl (w : World) (a : Option Addr) (n cap : Nat) (_z : Nat) (hB : By w.heap.size w a n) :
    Calls Try.prog 17 #[.slice a n cap] w fun e w' => e = .returned (.bool true) ∧ Below w.heap.size w w' := by
  by_cases h : 1048576 < n
  · exact lawDl_big a n cap w h
  · exact lawDl_small a n cap w hB (by omega)
end Go.Proofs.Ytbjllfnjecggfaa
