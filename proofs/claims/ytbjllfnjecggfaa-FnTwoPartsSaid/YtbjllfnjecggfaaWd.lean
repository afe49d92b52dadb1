/- Walks: AddSamples, the program's and the reference's. -/
import Derived.Test.YtbjllfnjecggfaaWc
import Derived.StillTailTactics
namespace Go.Proofs.Ytbjllfnjecggfaa
open Go.RowKit

def addv (xs ys : List Nat) : List (Option Nat) := List.zipWith (fun x y => Fl.fop .add .f32 (Fl.fv .f32 x) (Fl.fv .f32 y)) xs ys
theorem addv_length (xs ys : List Nat) (h : xs.length = ys.length) : (addv xs ys).length = xs.length := by simp [addv, h]
theorem addv_take_succ (xs ys : List Nat) (j : Nat) (h : j < xs.length) (hl : xs.length = ys.length) :
    (addv xs ys).take (j + 1) = (addv xs ys).take j ++ [Fl.fop .add .f32 (Fl.fv .f32 (xs.getD j 0)) (Fl.fv .f32 (ys.getD j 0))] := by
  have hy : j < ys.length := by omega
  rw [List.take_add_one]
  congr 1
  have : (addv xs ys)[j]? = some (Fl.fop .add .f32 (Fl.fv .f32 xs[j]) (Fl.fv .f32 ys[j])) := by
    unfold addv; simp [List.getElem?_zipWith, h, hy]
  rw [this]; simp [List.getD, h, hy]
def okAdd (xs ys : List Nat) : Bool := xs.length == ys.length && decide (xs.length ≤ 256)

theorem cells_one (w : World) (x : Nat) (e : Nat) : ∀ j u, ([fl x] : List Value)[j]? = some u → (w.alloc (.cells #[fl x] e)).cell? ((⟨w.heap.size, 0, none⟩ : Addr).add j) = some u := by
  intro j u hu
  cases j with
  | zero => simp at hu; subst hu; rw [Addr.add_lit]; simp
  | succ j => simp at hu

/-- what the round of an append gives -/
theorem of_append {w1 : World} {B : Nat} {v' : Value} {zs : List Nat} {x : Nat} (h : w1.ownsRow B 36 1 v' (zs.length + 1) (zs.map fl ++ [fl x])) : Of w1 B v' (zs ++ [x]) := by
  unfold Of; rw [List.length_append, List.map_append]; exact h

set_option maxRecDepth 100000 in
set_option maxHeartbeats 400000 in
theorem implAdd_ok (u v : Value) (xs ys : List Nat) (w : World) (hU : Rf w u xs) (hV : Rf w v ys) (hl : xs.length = ys.length) (h256 : xs.length ≤ 256) :
    Calls Try.prog 27 #[u, v] w fun e w' => ∃ r zs, e = .returned (.tuple #[r, .bool true]) ∧ Of w' w.heap.size r zs ∧ zs.map (Fl.fv .f32) = addv xs ys ∧ Below w.heap.size w w' := by
  obtain ⟨i0, hi, hz0, hz1, hz2⟩ := info_parts info36
  by_cases h0 : xs.length = 0
  · have hx : xs = [] := List.eq_nil_of_length_eq_zero h0
    have hy : ys = [] := List.eq_nil_of_length_eq_zero (by omega)
    subst hx hy
    clear hl h0
    rcases hU.split with ⟨o, c, rfl, _⟩ | ⟨b, off, cap, rfl, _, _, _⟩ <;> rcases hV.split with ⟨o', c', rfl, _⟩ | ⟨b', off', cap', rfl, _, _, _⟩
    all_goals
      go_enter Try.func27, Try.ntmps27
      go_wp2
      refine wp_loop_rounds 1 ?_
      rw [rounds_succ]
      go_wp2
      go_ret2
      exact ⟨_, [], rfl, World.ownsRow_nil _ _ _ _, rfl, Below.refl _ _⟩
  · rcases hU.split with ⟨o, c, rfl, e⟩ | ⟨b, off, cap, rfl, h1, h2, hc⟩
    · subst e; simp at h0
    rcases hV.split with ⟨o', c', rfl, e⟩ | ⟨b', off', cap', rfl, h1', h2', hc'⟩
    · subst e; simp at hl; subst hl; simp at h0
    rw [← hl] at h1' hc' ⊢
    have HC := Lib.hid hc
    have HC' := Lib.hid hc'
    have HL := Lib.hid hl
    clear hc hc' hl h0
    go_enter Try.func27, Try.ntmps27
    go_wp2
    go_loopw [6, 7, 20] (fun o _ i wr => ∃ (j : Nat) (zs : List Nat), j ≤ xs.length ∧ i = .int .i64 j ∧ zs.length = j ∧ Of wr w.heap.size o zs ∧ zs.map (Fl.fv .f32) = (addv xs ys).take j ∧ Below w.heap.size w wr) (fun _ _ i _ => xs.length - (intOf i).toNat)
    case atStart => exact ⟨0, [], Nat.zero_le _, rfl, rfl, World.ownsRow_nil _ _ _ _, rfl, Below.refl _ _⟩
    case round =>
      obtain ⟨j, zs, hj, rfl, hzl, hown, hfv, hbw⟩ := hrel
      by_cases hlt : j < xs.length
      · have hcell := HC.out j hlt
        have hcell' := HC'.out j hlt
        rw [← hbw.cell (p := ⟨b, off + j, none⟩) (World.block_lt_of_cell? _ _ hcell)] at hcell
        rw [← hbw.cell (p := ⟨b', off' + j, none⟩) (World.block_lt_of_cell? _ _ hcell')] at hcell'
        have hstep := Lib.hid (addv_take_succ xs ys j hlt HL.out)
        have HF := Lib.hid hfv
        have hzle : zs.length ≤ 256 := by omega
        have HZ := Lib.hid hzl
        clear hfv hzl
        generalize xs.getD j 0 = x at *
        generalize ys.getD j 0 = y at *
        go_wp2
        go_region_law (refine step_append_own rfl (.tmp 23) (.tmp 33) 22 rfl w.heap.size 36 i0 (.float .f32 0) 1 4 Try.underlying22 hi hz0 hz1 hz2 rfl (by decide) _ zs.length _ rfl (hown.alloc _) _ 1 1 [fl _] rfl rfl (cells_one _ _ _) (by simp [Value.oneCell']) (by unfold maxLen; omega) (by omega) (by have := hbw.size; simp; omega) ?_; intro v' w1 hown1 hgrow1)
        all_goals
          have hb1 : Below w.heap.size w w1 := Below.grown (by repeat (first | exact hbw | refine below_drewN ?_ _ | refine Below.drew ?_ | refine Below.alloc ?_ (by have := hbw.size; simp; omega) _)) hgrow1 (by have := hbw.size; simp; omega) (fun k hk => (hown.lt k hk).1)
          go_wp2
          go_roundw
          case rel => exact ⟨j + 1, zs ++ [_], by omega, by go_num, by rw [List.length_append, HZ.out]; rfl, of_append hown1, by rw [List.map_append, HF.out, hstep.out, List.map_singleton, Fl.fv_fbits], hb1⟩
          case measure => simp [intOf]; omega
      · have hke : j = xs.length := by omega
        subst hke
        go_wp2
        go_ret2
        exact ⟨_, zs, rfl, hown, by rw [hfv, List.take_of_length_le (by rw [addv_length _ _ HL.out]; exact Nat.le_refl _)], hbw⟩

set_option maxRecDepth 100000 in
set_option maxHeartbeats 400000 in
theorem specAdd_ok (u v : Value) (xs ys : List Nat) (w : World) (hU : Rf w u xs) (hV : Rf w v ys) (hl : xs.length = ys.length) (h256 : xs.length ≤ 256) :
    Calls Try.prog 25 #[u, v] w fun e w' => ∃ r zs, e = .returned (.tuple #[r, .bool true]) ∧ Of w' w.heap.size r zs ∧ zs.map (Fl.fv .f32) = addv xs ys ∧ Below w.heap.size w w' := by
  obtain ⟨i0, hi, hz0, hz1, hz2⟩ := info_parts info36
  by_cases h0 : xs.length = 0
  · have hx : xs = [] := List.eq_nil_of_length_eq_zero h0
    have hy : ys = [] := List.eq_nil_of_length_eq_zero (by omega)
    subst hx hy
    clear hl h0
    rcases hU.split with ⟨o, c, rfl, _⟩ | ⟨b, off, cap, rfl, _, _, _⟩ <;> rcases hV.split with ⟨o', c', rfl, _⟩ | ⟨b', off', cap', rfl, _, _, _⟩
    all_goals
      go_enter Try.func25, Try.ntmps25
      go_wp2
      refine wp_loop_rounds 1 ?_
      rw [rounds_succ]
      go_wp2
      go_ret2
      exact ⟨_, [], rfl, World.ownsRow_made w #[] 0 (Nat.le_refl _) (by unfold maxLen; omega) rfl, rfl, (Below.refl _ _).alloc (Nat.le_refl _) _⟩
  · rcases hU.split with ⟨o, c, rfl, e⟩ | ⟨b, off, cap, rfl, h1, h2, hc⟩
    · subst e; simp at h0
    rcases hV.split with ⟨o', c', rfl, e⟩ | ⟨b', off', cap', rfl, h1', h2', hc'⟩
    · subst e; simp at hl; subst hl; simp at h0
    rw [← hl] at h1' hc' ⊢
    have HC := Lib.hid hc
    have HC' := Lib.hid hc'
    have HL := Lib.hid hl
    clear hc hc' hl h0
    go_enter Try.func25, Try.ntmps25
    go_wp2
    go_loopw [6, 7] (fun o i wr => ∃ (j : Nat) (zs : List Nat), j ≤ xs.length ∧ i = .int .i64 j ∧ zs.length = j ∧ Of wr w.heap.size o zs ∧ zs.map (Fl.fv .f32) = (addv xs ys).take j ∧ Below w.heap.size w wr) (fun _ i _ => xs.length - (intOf i).toNat)
    case atStart => exact ⟨0, [], Nat.zero_le _, rfl, rfl, World.ownsRow_made w #[] 0 (Nat.le_refl _) (by unfold maxLen; omega) rfl, rfl, (Below.refl _ _).alloc (Nat.le_refl _) _⟩
    case round =>
      obtain ⟨j, zs, hj, rfl, hzl, hown, hfv, hbw⟩ := hrel
      by_cases hlt : j < xs.length
      · have hcell := HC.out j hlt
        have hcell' := HC'.out j hlt
        rw [← hbw.cell (p := ⟨b, off + j, none⟩) (World.block_lt_of_cell? _ _ hcell)] at hcell
        rw [← hbw.cell (p := ⟨b', off' + j, none⟩) (World.block_lt_of_cell? _ _ hcell')] at hcell'
        have hstep := Lib.hid (addv_take_succ xs ys j hlt HL.out)
        have HF := Lib.hid hfv
        have hzle : zs.length ≤ 256 := by omega
        have HZ := Lib.hid hzl
        clear hfv hzl
        generalize xs.getD j 0 = x at *
        generalize ys.getD j 0 = y at *
        go_wp2
        go_region_law (refine step_append_own rfl (.tmp 26) (.tmp 36) 22 rfl w.heap.size 36 i0 (.float .f32 0) 1 4 Try.underlying22 hi hz0 hz1 hz2 rfl (by decide) _ zs.length _ rfl (hown.alloc _) _ 1 1 [fl _] rfl rfl (cells_one _ _ _) (by simp [Value.oneCell']) (by unfold maxLen; omega) (by omega) (by have := hbw.size; simp; omega) ?_; intro v' w1 hown1 hgrow1)
        all_goals
          have hb1 : Below w.heap.size w w1 := Below.grown (by repeat (first | exact hbw | refine below_drewN ?_ _ | refine Below.drew ?_ | refine Below.alloc ?_ (by have := hbw.size; simp; omega) _)) hgrow1 (by have := hbw.size; simp; omega) (fun k hk => (hown.lt k hk).1)
          go_wp2
          go_roundw
          case rel => exact ⟨j + 1, zs ++ [_], by omega, by go_num, by rw [List.length_append, HZ.out]; rfl, of_append hown1, by rw [List.map_append, HF.out, hstep.out, List.map_singleton, Fl.fv_fbits], hb1⟩
          case measure => simp [intOf]; omega
      · have hke : j = xs.length := by omega
        subst hke
        go_wp2
        go_ret2
        exact ⟨_, zs, rfl, hown, by rw [hfv, List.take_of_length_le (by rw [addv_length _ _ HL.out]; exact Nat.le_refl _)], hbw⟩

set_option maxRecDepth 100000 in
set_option maxHeartbeats 400000 in
theorem implAdd_no (u v : Value) (xs ys : List Nat) (w : World) (hU : Rf w u xs) (hV : Rf w v ys) (h : ¬ xs.length = ys.length ∨ 256 < xs.length) :
    Calls Try.prog 27 #[u, v] w fun e w' => ∃ r, e = .returned (.tuple #[r, .bool false]) ∧ Of w' w.heap.size r [] ∧ Below w.heap.size w w' := by
  by_cases hl : xs.length = ys.length
  · have h2 : 256 < xs.length := by omega
    clear h
    rcases hU.split with ⟨o, c, rfl, e⟩ | ⟨b, off, cap, rfl, _, _, _⟩
    · subst e; simp at h2
    rcases hV.split with ⟨o', c', rfl, e⟩ | ⟨b', off', cap', rfl, _, _, _⟩
    · subst e; simp at hl; subst hl; simp at h2
    rw [← hl]
    clear hl
    go_enter Try.func27, Try.ntmps27
    go_wp2
    go_ret2
    exact ⟨_, rfl, World.ownsRow_nil _ _ _ _, Below.refl _ _⟩
  · have hne : ((xs.length : Int) != (ys.length : Int)) = true := by rw [bne_iff_ne]; omega
    have hne0 : xs.length = 0 → ((0 : Int) != (ys.length : Int)) = true := by intro h; rw [bne_iff_ne]; omega
    have hne1 : ys.length = 0 → ((xs.length : Int) != (0 : Int)) = true := by intro h; rw [bne_iff_ne]; omega
    rcases hU.split with ⟨o, c, rfl, e⟩ | ⟨b, off, cap, rfl, _, _, _⟩ <;> rcases hV.split with ⟨o', c', rfl, e'⟩ | ⟨b', off', cap', rfl, _, _, _⟩
    · subst e e'; simp at hl
    · have hx := hne0 (by rw [e]; rfl)
      clear hne hne0 hne1 h hl
      go_enter Try.func27, Try.ntmps27
      go_wp2
      go_ret2
      exact ⟨_, rfl, World.ownsRow_nil _ _ _ _, Below.refl _ _⟩
    · have hx := hne1 (by rw [e']; rfl)
      clear hne hne0 hne1 h hl
      go_enter Try.func27, Try.ntmps27
      go_wp2
      go_ret2
      exact ⟨_, rfl, World.ownsRow_nil _ _ _ _, Below.refl _ _⟩
    · clear hne0 hne1 h hl
      go_enter Try.func27, Try.ntmps27
      go_wp2
      go_ret2
      exact ⟨_, rfl, World.ownsRow_nil _ _ _ _, Below.refl _ _⟩

set_option maxRecDepth 100000 in
set_option maxHeartbeats 400000 in
theorem specAdd_no (u v : Value) (xs ys : List Nat) (w : World) (hU : Rf w u xs) (hV : Rf w v ys) (h : ¬ xs.length = ys.length ∨ 256 < xs.length) :
    Calls Try.prog 25 #[u, v] w fun e w' => ∃ r, e = .returned (.tuple #[r, .bool false]) ∧ Of w' w.heap.size r [] ∧ Below w.heap.size w w' := by
  by_cases hl : xs.length = ys.length
  · have h2 : 256 < xs.length := by omega
    clear h
    rcases hU.split with ⟨o, c, rfl, e⟩ | ⟨b, off, cap, rfl, _, _, _⟩
    · subst e; simp at h2
    rcases hV.split with ⟨o', c', rfl, e⟩ | ⟨b', off', cap', rfl, _, _, _⟩
    · subst e; simp at hl; subst hl; simp at h2
    rw [← hl]
    clear hl
    go_enter Try.func25, Try.ntmps25
    go_wp2
    go_ret2
    exact ⟨_, rfl, World.ownsRow_made w #[] 0 (Nat.le_refl _) (by unfold maxLen; omega) rfl, (Below.refl _ _).alloc (Nat.le_refl _) _⟩
  · have hne : ((xs.length : Int) != (ys.length : Int)) = true := by rw [bne_iff_ne]; omega
    have hne0 : xs.length = 0 → ((0 : Int) != (ys.length : Int)) = true := by intro h; rw [bne_iff_ne]; omega
    have hne1 : ys.length = 0 → ((xs.length : Int) != (0 : Int)) = true := by intro h; rw [bne_iff_ne]; omega
    rcases hU.split with ⟨o, c, rfl, e⟩ | ⟨b, off, cap, rfl, _, _, _⟩ <;> rcases hV.split with ⟨o', c', rfl, e'⟩ | ⟨b', off', cap', rfl, _, _, _⟩
    · subst e e'; simp at hl
    · have hx := hne0 (by rw [e]; rfl)
      clear hne hne0 hne1 h hl
      go_enter Try.func25, Try.ntmps25
      go_wp2
      go_ret2
      exact ⟨_, rfl, World.ownsRow_made w #[] 0 (Nat.le_refl _) (by unfold maxLen; omega) rfl, (Below.refl _ _).alloc (Nat.le_refl _) _⟩
    · have hx := hne1 (by rw [e']; rfl)
      clear hne hne0 hne1 h hl
      go_enter Try.func25, Try.ntmps25
      go_wp2
      go_ret2
      exact ⟨_, rfl, World.ownsRow_made w #[] 0 (Nat.le_refl _) (by unfold maxLen; omega) rfl, (Below.refl _ _).alloc (Nat.le_refl _) _⟩
    · clear hne0 hne1 h hl
      go_enter Try.func25, Try.ntmps25
      go_wp2
      go_ret2
      exact ⟨_, rfl, World.ownsRow_made w #[] 0 (Nat.le_refl _) (by unfold maxLen; omega) rfl, (Below.refl _ _).alloc (Nat.le_refl _) _⟩

end Go.Proofs.Ytbjllfnjecggfaa
