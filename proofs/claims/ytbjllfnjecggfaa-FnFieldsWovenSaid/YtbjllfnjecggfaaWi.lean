/- Walks: Delay, the program's and the reference's. -/
import Derived.Test.YtbjllfnjecggfaaWh
namespace Go.Proofs.Ytbjllfnjecggfaa
open Go.RowKit

theorem withinI_any (n lo hi : Int) (b : Bool) (w : World) (h : decide (lo ≤ n ∧ n ≤ hi) = b) : Calls Try.prog 88 #[.int .i64 n, .int .i64 lo, .int .i64 hi] w fun e w' => e = .returned (.bool b) ∧ w = w' := by
  have HB := Lib.hid h
  clear h
  by_cases h1 : lo ≤ n
  · by_cases h2 : n ≤ hi
    · have HN := Lib.hid ((decide_eq_true (show lo ≤ n ∧ n ≤ hi from ⟨h1, h2⟩)).symm.trans HB.out)
      go_enter Try.func88, Try.ntmps88
      go_wp2
      go_ret
      exact ⟨by rw [← HN.out]; rfl, rfl⟩
    · have HN := Lib.hid ((decide_eq_false (show ¬ (lo ≤ n ∧ n ≤ hi) from fun h => h2 h.2)).symm.trans HB.out)
      go_enter Try.func88, Try.ntmps88
      go_wp2
      go_ret
      exact ⟨by rw [← HN.out]; rfl, rfl⟩
  · have HN := Lib.hid ((decide_eq_false (show ¬ (lo ≤ n ∧ n ≤ hi) from fun h => h1 h.1)).symm.trans HB.out)
    go_enter Try.func88, Try.ntmps88
    go_wp2
    go_ret
    exact ⟨by rw [← HN.out]; rfl, rfl⟩

/-- samples, d places later -/
def delayed (xs : List Nat) (d : Nat) : List Nat := (List.replicate d 0 ++ xs).take xs.length
theorem delayed_len (xs : List Nat) (d : Nat) : (delayed xs d).length = xs.length := by unfold delayed; rw [List.length_take, List.length_append, List.length_replicate]; omega
theorem delayed_lo (xs : List Nat) (d j : Nat) (h : j < xs.length) (hd : j < d) : (delayed xs d).take (j + 1) = (delayed xs d).take j ++ [0] := by
  rw [getD_take_succ _ _ (by rw [delayed_len]; exact h)]
  congr 2
  unfold delayed
  simp [List.getD, h, hd]
theorem delayed_hi (xs : List Nat) (d j : Nat) (h : j < xs.length) (hd : d ≤ j) : (delayed xs d).take (j + 1) = (delayed xs d).take j ++ [xs.getD (j - d) 0] := by
  rw [getD_take_succ _ _ (by rw [delayed_len]; exact h)]
  congr 2
  unfold delayed
  have e : ((List.replicate d 0 ++ xs).take xs.length)[j]? = xs[j - d]? := by
    rw [List.getElem?_take, if_pos h, List.getElem?_append_right (by rw [List.length_replicate]; exact hd), List.length_replicate]
  rw [List.getD_eq_getElem?_getD, e, ← List.getD_eq_getElem?_getD]

set_option maxRecDepth 100000 in
set_option maxHeartbeats 400000 in
theorem delayS_no (v : Value) (xs : List Nat) (n : Int) (w : World) (hR : Rf w v xs) (hn : ¬ (0 ≤ n ∧ n ≤ 64)) :
    Calls Try.prog 33 #[v, .int .i64 n] w fun e w' => ∃ r, e = .returned (.tuple #[r, .bool false]) ∧ Of w' w.heap.size r [] ∧ Below w.heap.size w w' := by
  obtain ⟨a, c, rfl⟩ := hR.form
  have HD := Lib.hid (decide_eq_false hn)
  clear hn hR
  go_enter Try.func33, Try.ntmps33
  go_wp2_with (go_at_call 85; refine (inI_any _ _ _ false _ HD.out).mono ?_; rintro e w' ⟨rfl, rfl⟩)
  go_ret2
  exact ⟨_, rfl, own_nilrow w, (Below.refl _ _).alloc (Nat.le_refl _) _⟩

set_option maxRecDepth 100000 in
set_option maxHeartbeats 400000 in
theorem delayI_no (v : Value) (xs : List Nat) (n : Int) (w : World) (hR : Rf w v xs) (hn : ¬ (0 ≤ n ∧ n ≤ 64)) :
    Calls Try.prog 34 #[v, .int .i64 n] w fun e w' => ∃ r, e = .returned (.tuple #[r, .bool false]) ∧ Of w' w.heap.size r [] ∧ Below w.heap.size w w' := by
  obtain ⟨a, c, rfl⟩ := hR.form
  have HD := Lib.hid (decide_eq_false hn)
  clear hn hR
  go_enter Try.func34, Try.ntmps34
  go_wp2_with (go_at_call 88; refine (withinI_any _ _ _ false _ HD.out).mono ?_; rintro e w' ⟨rfl, rfl⟩)
  go_ret2
  exact ⟨_, rfl, World.ownsRow_nil _ _ _ _, Below.refl _ _⟩

set_option maxRecDepth 100000 in
set_option maxHeartbeats 1000000 in
theorem delayS_yes (v : Value) (xs : List Nat) (n : Nat) (w : World) (hR : Rf w v xs) (hlen : xs.length ≤ 1048576) (hn : n ≤ 64) :
    Calls Try.prog 33 #[v, .int .i64 n] w fun e w' => ∃ r, e = .returned (.tuple #[r, .bool true]) ∧ Of w' w.heap.size r (delayed xs (4 * n)) ∧ Below w.heap.size w w' := by
  obtain ⟨i0, hi, hz0, hz1, hz2⟩ := info_parts info36
  have HD := Lib.hid (decide_eq_true (show (0 : Int) ≤ n ∧ (n : Int) ≤ 64 by omega))
  rcases hR.split with ⟨o, c, rfl, rfl⟩ | ⟨b, off, cap, rfl, h1, h2, hc⟩
  · go_enter Try.func33, Try.ntmps33
    go_wp2_with (go_at_call 85; refine (inI_any _ _ _ true _ HD.out).mono ?_; rintro e w' ⟨rfl, rfl⟩)
    refine wp_loop_rounds 1 ?_
    rw [rounds_succ]
    go_wp2
    go_ret2
    exact ⟨_, rfl, by simpa [Of, delayed] using own_nilrow w, (Below.refl _ _).alloc (Nat.le_refl _) _⟩
  · have HC := Lib.hid hc
    clear hc
    go_enter Try.func33, Try.ntmps33
    go_wp2_with (go_at_call 85; refine (inI_any _ _ _ true _ HD.out).mono ?_; rintro e w' ⟨rfl, rfl⟩)
    go_loopw [6, 7, 8] (fun o i _ wr => ∃ j : Nat, j ≤ xs.length ∧ i = .int .i64 j ∧ Of wr w.heap.size o ((delayed xs (4 * n)).take j) ∧ Below w.heap.size w wr) (fun _ i _ _ => xs.length - (intOf i).toNat)
    case atStart => exact ⟨0, Nat.zero_le _, rfl, own_nilrow w, (Below.refl _ _).alloc (Nat.le_refl _) _⟩
    case round =>
      obtain ⟨j, hj, rfl, hown, hbw⟩ := hrel
      have hzl : ((delayed xs (4 * n)).take j).length = j := by rw [List.length_take, delayed_len]; omega
      have hzle : ((delayed xs (4 * n)).take j).length ≤ 1048576 := by omega
      have hbs := hbw.size
      by_cases hlt : j < xs.length
      · by_cases hd : j < 4 * n
        · have hst := Lib.hid (delayed_lo xs (4 * n) j hlt hd)
          generalize (delayed xs (4 * n)).take j = zs at *
          clear hzl
          have hd' : (j : Int) < 4 * (n : Int) := by omega
          go_wp2_with (at_builtin; refine wpList_append_own _ rfl _ _ 22 rfl w.heap.size 36 i0 (.float .f32 0) 1 4 Try.underlying22 hi hz0 hz1 hz2 rfl (by decide) _ zs.length (zs.map fl) rfl (hown.alloc _) _ 1 1 [fl _] rfl rfl (cells_fl _ _ _) (by simp [Value.oneCell']) (by unfold maxLen; omega) (by omega) (by simp; omega) ?_; intro v' w1 hown1 hgrow1 _)
          have hb1 : Below w.heap.size w w1 := (hbw.alloc hbs _).grown hgrow1 (by simp; omega) (fun k hk => (hown.lt k hk).1)
          go_roundw
          case rel => exact ⟨j + 1, by omega, by go_num, by rw [hst.out]; exact of_snoc hown1, hb1⟩
          case measure => simp [intOf]; omega
        · have hst := Lib.hid (delayed_hi xs (4 * n) j hlt (by omega))
          have hcell := HC.out (j - 4 * n) (by omega)
          rw [← hbw.cell (p := ⟨b, off + (j - 4 * n), none⟩) (World.block_lt_of_cell? _ _ hcell)] at hcell
          generalize (delayed xs (4 * n)).take j = zs at *
          generalize xs.getD (j - 4 * n) 0 = x at *
          clear hzl
          have hd' : 4 * (n : Int) ≤ (j : Int) := by omega
          go_wp2_with (at_builtin; refine wpList_append_own _ rfl _ _ 22 rfl w.heap.size 36 i0 (.float .f32 0) 1 4 Try.underlying22 hi hz0 hz1 hz2 rfl (by decide) _ zs.length (zs.map fl) rfl (hown.alloc _) _ 1 1 [fl _] rfl rfl (cells_fl _ _ _) (by simp [Value.oneCell']) (by unfold maxLen; omega) (by omega) (by simp; omega) ?_; intro v' w1 hown1 hgrow1 _)
          have hb1 : Below w.heap.size w w1 := (hbw.alloc hbs _).grown hgrow1 (by simp; omega) (fun k hk => (hown.lt k hk).1)
          go_roundw
          case rel => exact ⟨j + 1, by omega, by go_num, by rw [hst.out]; exact of_snoc hown1, hb1⟩
          case measure => simp [intOf]; omega
      · have hke : j = xs.length := by omega
        subst hke
        go_wp2
        go_ret2
        refine ⟨_, rfl, ?_, hbw⟩
        rwa [List.take_of_length_le (by rw [delayed_len]; exact Nat.le_refl _)] at hown

theorem splice_delayed (xs : List Nat) (d : Nat) (h : d < xs.length) : splice ((List.replicate xs.length 0).map fl) d ((xs.take (xs.length - d)).map fl) = (delayed xs d).map fl := by
  unfold splice delayed
  rw [← List.map_take, ← List.map_drop, ← List.map_append, ← List.map_append]
  congr 1
  rw [List.take_replicate, Nat.min_eq_left (by omega), List.length_map, List.length_take, Nat.min_eq_left (by omega), List.drop_replicate, show xs.length - (d + (xs.length - d)) = 0 by omega, List.replicate_zero, List.append_nil, List.take_append, List.length_replicate, List.take_replicate, Nat.min_eq_right (by omega)]
theorem delayed_far (xs : List Nat) (d : Nat) (h : xs.length ≤ d) : delayed xs d = List.replicate xs.length 0 := by
  unfold delayed
  rw [List.take_append, List.take_replicate, List.length_replicate, show xs.length - d = 0 by omega, Nat.min_eq_left h]; simp
theorem row_full {w : World} {B e g n : Nat} {xs : List Value} (h : w.ownsRow B e 1 (.slice (some ⟨g, 0, none⟩) n n) n xs) : w.heap[g]? = some (.cells xs.toArray e (0, 0)) := by
  rcases h.2 with ⟨h1, _⟩ | ⟨g', cap, cur, h1, _, hg, _, _, hs, ht⟩
  · cases h1
  · cases h1
    rw [hg]
    have : cur = xs.toArray := by rw [← ht, List.take_of_length_le (by simp; omega)]
    rw [this]
theorem full_row {w : World} {B e g n : Nat} {xs : List Value} (h : w.heap[g]? = some (.cells xs.toArray e (0, 0))) (hl : xs.length = n) (hB : B ≤ g) (hm : n ≤ maxLen) : w.ownsRow B e 1 (.slice (some ⟨g, 0, none⟩) n n) n xs :=
  ⟨by omega, .inr ⟨g, n, _, rfl, hB, h, Nat.le_refl _, hm, by rw [List.size_toArray]; omega, by rw [List.take_of_length_le (show xs.length ≤ n * 1 by omega)]⟩⟩

theorem delay_cells {w w1 : World} {ad : Addr} {xs : List Nat} (h : ∀ j u, (xs.map fl)[j]? = some u → w.cell? (ad.add j) = some u) (hb : Below w.heap.size w w1) (k : Nat) : ∀ j u, ((xs.take k).map fl)[j]? = some u → w1.cell? (ad.add j) = some u := by
  intro j u hu
  have h1 : (xs.map fl)[j]? = some u := by
    rw [List.map_take, List.getElem?_take] at hu
    split at hu
    · exact hu
    · cases hu
  have h2 := h j u h1
  rw [World.cell?_of_block (w := w) (hb.block _ (World.block_lt_of_cell? _ _ h2))]; exact h2

set_option maxRecDepth 100000 in
set_option maxHeartbeats 1000000 in
theorem delayI_yes (v : Value) (xs : List Nat) (n : Nat) (w : World) (hR : Rf w v xs) (hlen : xs.length ≤ 1048576) (hn : n ≤ 64) :
    Calls Try.prog 34 #[v, .int .i64 n] w fun e w' => ∃ r, e = .returned (.tuple #[r, .bool true]) ∧ Of w' w.heap.size r (delayed xs (4 * n)) ∧ Below w.heap.size w w' := by
  obtain ⟨i0, hi, hz0, hz1, hz2⟩ := info_parts info36
  have HD := Lib.hid (decide_eq_true (show (0 : Int) ≤ n ∧ (n : Int) ≤ 64 by omega))
  by_cases hfar : xs.length ≤ 4 * n
  · obtain ⟨a, c, rfl⟩ := hR.form
    have HF := Lib.hid (delayed_far xs (4 * n) hfar)
    have hfi : (xs.length : Int) ≤ 4 * (n : Int) := by omega
    clear hfar hR
    go_enter Try.func34, Try.ntmps34
    go_wp2_with (first | (go_at_call 88; refine (withinI_any _ _ _ true _ HD.out).mono ?_; rintro e w' ⟨rfl, rfl⟩) | (at_make; refine wpList_make_full _ rfl _ _ 22 rfl w.heap.size 36 i0 (.float .f32 0) 1 Try.underlying22 hi hz0 hz1 .i64 .i64 _ _ xs.length rfl rfl rfl rfl (by rw [hz2]; omega) (by unfold maxLen; omega) (Nat.le_refl _) ?_; intro w1 hown hgrow))
    go_ret2
    refine ⟨_, rfl, ?_, (Below.refl _ _).grown hgrow (Nat.le_refl _) (fun k h => by cases h)⟩
    rw [made_fl] at hown
    rw [HF.out]
    simpa [Of] using hown
  · rcases hR.addr with ⟨c, rfl, rfl⟩ | ⟨ad, c, rfl, hc⟩
    · simp at hfar
    · have HS := Lib.hid (splice_delayed xs (4 * n) (by omega))
      have hcf : ¬ xs.length = 4 * n := by omega
      have hfi : 4 * (n : Int) < (xs.length : Int) := by omega
      have HC := Lib.hid hc
      clear hfar hc hR
      have hcl : ((xs.take (xs.length - 4 * n)).map fl).length = xs.length - 4 * n := by simp
      have HL := Lib.hid hcl
      clear hcl
      go_enter Try.func34, Try.ntmps34
      go_wp2_with (first | (go_at_call 88; refine (withinI_any _ _ _ true _ HD.out).mono ?_; rintro e w' ⟨rfl, rfl⟩) | (at_make; refine wpList_make_full _ rfl _ _ 22 rfl w.heap.size 36 i0 (.float .f32 0) 1 Try.underlying22 hi hz0 hz1 .i64 .i64 _ _ xs.length rfl rfl rfl rfl (by rw [hz2]; omega) (by unfold maxLen; omega) (Nat.le_refl _) ?_; intro w1 hown hgrow; rw [made_fl] at hown; have HR := Lib.hid (row_full hown); have hb1 : Below w.heap.size w w1 := (Below.refl _ _).grown hgrow (Nat.le_refl _) (fun k h => by cases h)) | (with_reducible refine wpList_copy_splice rfl (.tmp 22) (.tmp 23) 22 22 rfl 36 Try.underlying22 (by kernel_rfl) _ _ _ _ _ _ rfl rfl w.heap.size (4 * n) _ _ HR.out ((xs.take (xs.length - 4 * n)).map fl) (by rw [HL.out]; show _ = min _ _; omega) (fun _ => ⟨rfl, ad, rfl, delay_cells HC.out hb1 _⟩) (by rw [HL.out]; simp; omega) (fl_one _) w.heap.size w hb1 (Nat.le_refl _) ?_; intro w2 hg2 hb2))
      go_ret2
      refine ⟨_, rfl, ?_, hb2⟩
      have := hg2.out
      rw [HS.out] at this
      unfold Of
      rw [delayed_len]
      exact full_row this (by rw [List.length_map, delayed_len]) (Nat.le_refl _) (by unfold maxLen; omega)

end Go.Proofs.Ytbjllfnjecggfaa
