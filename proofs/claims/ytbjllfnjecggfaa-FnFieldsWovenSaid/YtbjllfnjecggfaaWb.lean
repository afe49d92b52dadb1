/- Walks: the law's own helpers on slices of singles: toFloat32S, markFloat32S, heldFloat32S, eqFloat32S. -/
import Derived.Test.YtbjllfnjecggfaaMem
namespace Go.Proofs.Ytbjllfnjecggfaa
open Go.RowKit

theorem made_fl (n : Nat) : (madeCells (Value.float .f32 0).cells (n * 1)).toList = (List.replicate n 0).map fl := by
  rw [Nat.mul_one, show (Value.float .f32 0).cells = #[.float .f32 0] from rfl, toList_madeCells_one, List.map_replicate]

/-- the row after k rounds of copying -/
theorem copy_step (zs : List Nat) (k : Nat) (h : k < zs.length) : ((zs.take k ++ List.replicate (zs.length - k) 0).map fl).set k (fl (zs.getD k 0)) = (zs.take (k + 1) ++ List.replicate (zs.length - (k + 1)) 0).map fl := by
  rw [← List.map_set]
  congr 1
  have hl : (zs.take k).length = k := by simp; omega
  rw [List.set_append_right _ _ (by omega), hl, Nat.sub_self, getD_take_succ zs k h]
  obtain ⟨m, hm⟩ : ∃ m, zs.length - k = m + 1 := ⟨zs.length - k - 1, by omega⟩
  rw [hm, show zs.length - (k + 1) = m by omega, List.replicate_succ]
  simp

theorem copy_at (zs : List Nat) (k : Nat) (h : k < zs.length) : ((zs.take k ++ List.replicate (zs.length - k) 0).map fl)[k]? = some (fl 0) := by
  have hl : (zs.take k).length = k := by simp; omega
  rw [List.getElem?_map, List.getElem?_append_right (by omega), hl, Nat.sub_self, List.getElem?_replicate, if_pos (by omega)]; rfl

set_option maxHeartbeats 400000 in
theorem toF_any (v : Value) (zs : List Nat) (w : World) (hR : Rf w v zs) (hlen : zs.length ≤ 1048576) :
    Calls Try.prog 26 #[v] w fun e w' => ∃ v', e = .returned v' ∧ Of w' w.heap.size v' zs ∧ Below w.heap.size w w' := by
  obtain ⟨i0, hi, hz0, hz1, hz2⟩ := info_parts info36
  rcases hR.split with ⟨o, c, rfl, rfl⟩ | ⟨b, off, cap, rfl, h1, h2, hc⟩
  · go_enter Try.func26, Try.ntmps26
    go_wp2_with (at_make; refine wpList_make_full _ rfl _ _ 22 rfl w.heap.size 36 i0 (.float .f32 0) 1 Try.underlying22 hi hz0 hz1 .i64 .i64 _ _ 0 rfl rfl rfl rfl (by omega) (by unfold maxLen; omega) (Nat.le_refl _) ?_; intro w1 hown hgrow)
    refine wp_loop_rounds 1 ?_
    rw [rounds_succ]
    go_wp2
    go_ret
    exact ⟨_, rfl, by have := made_fl 0 ▸ hown; exact this, (Below.refl _ _).grown hgrow (Nat.le_refl _) (fun k h => by cases h)⟩
  · go_enter Try.func26, Try.ntmps26
    go_wp2_with (at_make; refine wpList_make_full _ rfl _ _ 22 rfl w.heap.size 36 i0 (.float .f32 0) 1 Try.underlying22 hi hz0 hz1 .i64 .i64 _ _ zs.length rfl rfl rfl rfl (by rw [hz2]; omega) (by unfold maxLen; omega) (Nat.le_refl _) ?_; intro w1 hown hgrow)
    have hb1 : Below w.heap.size w w1 := (Below.refl _ _).grown hgrow (Nat.le_refl _) (fun k h => by cases h)
    rw [made_fl] at hown
    go_loopw [4] (fun i wr => ∃ k : Nat, k ≤ zs.length ∧ i = .int .i64 k ∧ wr.ownsRow w.heap.size 36 1 (.slice (some ⟨w.heap.size, 0, none⟩) zs.length zs.length) zs.length ((zs.take k ++ List.replicate (zs.length - k) 0).map fl) ∧ Below w.heap.size w wr) (fun i _ => zs.length - (intOf i).toNat)
    case atStart => exact ⟨0, Nat.zero_le _, rfl, by simpa using hown, hb1⟩
    case round =>
      obtain ⟨k, hk, rfl, hown, hbw⟩ := hrel
      by_cases hlt : k < zs.length
      · have hcell := hc k hlt
        rw [← hbw.cell (p := ⟨b, off + k, none⟩) (World.block_lt_of_cell? _ _ hcell)] at hcell
        have hw := hown.cellAt k (by omega)
        have hfz := hown.frozenAt k
        have hst := Lib.hid (hown.stored k (fl (zs.getD k 0)))
        have hw2 : wr.cell? ⟨w.heap.size, k, none⟩ = some (.float .f32 0) := hw.trans (copy_at zs k hlt)
        clear hw
        go_wp2
        go_roundw
        case rel =>
          have h := hst.out
          rw [copy_step zs k hlt] at h
          refine ⟨k + 1, by omega, by go_num, ?_, hbw.setCell (Nat.le_refl _) _⟩
          simpa [List.getD, hlt] using h.1
        case measure => simp [intOf]; omega
      · have hke : k = zs.length := by omega
        subst hke
        go_wp2
        go_ret
        refine ⟨_, rfl, ?_, hbw⟩
        unfold Of
        simpa using hown

/-- what a row of n singles is marked with, from number k on -/
def mk (k : Int) : Nat → List Nat
  | 0 => []
  | n + 1 => floatOfInt .f32 k :: mk (k + 1) n
theorem mk_length (n : Nat) : ∀ k, (mk k n).length = n := by
  induction n with
  | zero => intro k; rfl
  | succ n ih => intro k; simp [mk, ih]
theorem mk_getD (n : Nat) : ∀ (k : Int) (j : Nat), j < n → (mk k n).getD j 0 = floatOfInt .f32 (k + j) := by
  induction n with
  | zero => intro k j h; omega
  | succ n ih =>
    intro k j h
    cases j with
    | zero => simp [mk]
    | succ j =>
      have := ih (k + 1) j (by omega)
      simp only [mk, List.getD_cons_succ, this]
      congr 1; omega
theorem mk_take (k : Int) (n j : Nat) (h : j < n) : (mk k n).take (j + 1) = (mk k n).take j ++ [floatOfInt .f32 (k + j)] := by
  rw [getD_take_succ _ _ (by rw [mk_length]; exact h), mk_getD n k j h]

theorem mark_step (zs ms : List Nat) (j x : Nat) (h : j < zs.length) (hm : ms.length = zs.length) (hx : ms.take (j + 1) = ms.take j ++ [x]) :
    ((ms.take j ++ zs.drop j).map fl).set j (fl x) = (ms.take (j + 1) ++ zs.drop (j + 1)).map fl := by
  rw [← List.map_set]
  congr 1
  have hl : (ms.take j).length = j := by simp; omega
  rw [List.set_append_right _ _ (by omega), hl, Nat.sub_self, hx, List.drop_eq_getElem_cons h, List.set_cons_zero, List.append_assoc]
  rfl
theorem mark_at (zs ms : List Nat) (j : Nat) (h : j < zs.length) (hm : ms.length = zs.length) : ((ms.take j ++ zs.drop j).map fl)[j]? = some (fl (zs.getD j 0)) := by
  have hl : (ms.take j).length = j := by simp; omega
  rw [List.getElem?_map, List.getElem?_append_right (by omega), hl, Nat.sub_self, List.drop_eq_getElem_cons h]
  simp [List.getD, h]

set_option maxHeartbeats 400000 in
theorem markF_any (B : Nat) (v : Value) (zs : List Nat) (k : Int) (w : World) (hO : Of w B v zs) (hlen : zs.length ≤ 1048576) (hk0 : 0 ≤ k) (hk : k ≤ 100000000) :
    Calls Try.prog 29 #[v, .int .i64 k] w fun e w' => e = .returned (.int .i64 (k + zs.length)) ∧ Of w' B v (mk k zs.length) ∧ Only (fun j => v.ownBlock = some j) w w' := by
  have hO' := hO
  rcases hO.2 with ⟨rfl, h0⟩ | ⟨g, cap, cur, rfl, hB, hg, hn, hm, hcs, ht⟩
  · have hz : zs = [] := List.eq_nil_of_length_eq_zero h0
    subst hz
    go_enter Try.func29, Try.ntmps29
    go_wp2
    refine wp_loop_rounds 1 ?_
    rw [rounds_succ]
    go_wp2
    go_ret
    exact ⟨by simp, hO', Only.refl _ _⟩
  · go_enter Try.func29, Try.ntmps29
    go_wp2
    go_loopw [1, 5] (fun q i wr => ∃ j : Nat, j ≤ zs.length ∧ i = .int .i64 j ∧ q = .int .i64 (k + j) ∧ wr.ownsRow B 36 1 (.slice (some ⟨g, 0, none⟩) zs.length cap) zs.length (((mk k zs.length).take j ++ zs.drop j).map fl) ∧ Only (fun j => Value.ownBlock (.slice (some ⟨g, 0, none⟩) zs.length cap) = some j) w wr) (fun _ i _ => zs.length - (intOf i).toNat)
    case atStart => exact ⟨0, Nat.zero_le _, rfl, by simp, by simpa [Of] using hO', Only.refl _ _⟩
    case round =>
      obtain ⟨j, hj, rfl, rfl, hown, hbw⟩ := hrel
      by_cases hlt : j < zs.length
      · have hw := (hown.cellAt j (by omega)).trans (mark_at zs (mk k zs.length) j hlt (mk_length _ _))
        have hfz := hown.frozenAt j
        have hst := Lib.hid (hown.stored j (fl (floatOfInt .f32 (k + j))))
        go_wp2
        go_roundw
        case rel =>
          have h := hst.out
          rw [mark_step zs (mk k zs.length) j _ hlt (mk_length _ _) (mk_take k zs.length j hlt)] at h
          exact ⟨j + 1, by omega, by go_num, by go_num, h.1, hbw.setCell (p := ⟨g, j, none⟩) rfl _⟩
        case measure => simp [intOf]; omega
      · have hke : j = zs.length := by omega
        subst hke
        go_wp2
        go_ret
        refine ⟨rfl, ?_, hbw⟩
        unfold Of
        rw [mk_length]
        simpa [List.take_of_length_le, mk_length] using hown


theorem floatOfInt_notNaN (k : FloatKind) (n : Int) : (k.format.read (floatOfInt k n)).isNaN = false := Fl.write_notNaN k.format (d := .number (n < 0) n.natAbs 0) rfl

set_option maxHeartbeats 400000 in
theorem heldF_any (v : Value) (k : Int) (n : Nat) (w : World) (hR : Rf w v (mk k n)) (hlen : n ≤ 1048576) (hk0 : 0 ≤ k) (hk : k ≤ 100000000) :
    Calls Try.prog 30 #[v, .int .i64 k] w fun e w' => e = .returned (.int .i64 (k + n)) ∧ w = w' := by
  rcases hR.split with ⟨o, c, rfl, h0⟩ | ⟨b, off, cap, rfl, h1, h2, hc⟩
  · have hz : n = 0 := by rw [← mk_length n k, h0]; rfl
    subst hz
    go_enter Try.func30, Try.ntmps30
    go_wp2
    refine wp_loop_rounds 1 ?_
    rw [rounds_succ]
    go_wp2
    go_ret
    exact ⟨by simp, rfl⟩
  · rw [mk_length] at h1 hc ⊢
    have HC := Lib.hid hc
    clear hc
    go_enter Try.func30, Try.ntmps30
    go_wp2
    go_loop [1, 5] (fun q i => ∃ j : Nat, j ≤ n ∧ i = .int .i64 j ∧ q = .int .i64 (k + j)) (fun _ i => n - (intOf i).toNat)
    case atStart => exact ⟨0, Nat.zero_le _, rfl, by simp⟩
    case round =>
      obtain ⟨j, hj, rfl, rfl⟩ := hrel
      by_cases hlt : j < n
      · have hcell := HC.out j hlt
        rw [mk_getD n k j hlt] at hcell
        have hne : (FloatKind.f32.format.order (floatOfInt .f32 (k + j)) (floatOfInt .f32 (k + j)) != some .eq) = false := by rw [Fl.order_self (k := .f32) (floatOfInt_notNaN _ _)]; rfl
        go_wp2
        go_round
        case rel => exact ⟨j + 1, by omega, by go_num, by go_num⟩
        case measure => simp [intOf]; omega
      · have hke : j = n := by omega
        subst hke
        go_wp2
        go_ret
        exact ⟨rfl, rfl⟩

end Go.Proofs.Ytbjllfnjecggfaa
