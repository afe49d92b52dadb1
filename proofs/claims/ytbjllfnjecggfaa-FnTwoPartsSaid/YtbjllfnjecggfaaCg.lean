/- Walks: markCellS, heldCellS. -/
import Derived.Test.YtbjllfnjecggfaaCf
import Derived.Test.YtbjllfnjecggfaaFd
namespace Go.Proofs.Ytbjllfnjecggfaa
open Go.RowKit

theorem cells_set (l : List CV) : ∀ (j : Nat) (c : CV), ((cells l).set (j * 2) (.float .f32 c.1)).set (j * 2 + 1) (.complex .f32 c.2.1 c.2.2) = cells (l.set j c) ∨ l.length ≤ j := by
  induction l with
  | nil => intro j c; right; simp
  | cons x l ih =>
    intro j c
    cases j with
    | zero => left; rfl
    | succ j =>
      rcases ih j c with h | h
      · left
        have e : (j + 1) * 2 = j * 2 + 1 + 1 := by omega
        show ((.float .f32 x.1 :: .complex .f32 x.2.1 x.2.2 :: cells l).set ((j + 1) * 2) _).set ((j + 1) * 2 + 1) _ = .float .f32 x.1 :: .complex .f32 x.2.1 x.2.2 :: cells (l.set j c)
        rw [e, List.set_cons_succ, List.set_cons_succ, List.set_cons_succ, List.set_cons_succ, h]
      · right; simp; omega

/-- what a row of n cells is marked with, from number k on -/
def mkC (k : Int) : Nat → List CV
  | 0 => []
  | n + 1 => (floatOfInt .f32 k, Fl.nc (k + 1), 1065353216) :: mkC (k + 2) n
theorem mkC_length (n : Nat) : ∀ k, (mkC k n).length = n := by
  induction n with
  | zero => intro k; rfl
  | succ n ih => intro k; simp [mkC, ih]
theorem mkC_getD (n : Nat) : ∀ (k : Int) (j : Nat), j < n → (mkC k n).getD j c0 = (floatOfInt .f32 (k + 2 * j), Fl.nc (k + 2 * j + 1), 1065353216) := by
  induction n with
  | zero => intro k j h; omega
  | succ n ih =>
    intro k j h
    cases j with
    | zero => simp [mkC]
    | succ j =>
      have := ih (k + 2) j (by omega)
      simp only [mkC, List.getD_cons_succ, this]
      rw [show k + 2 + 2 * (j : Int) = k + 2 * ((j + 1 : Nat) : Int) by omega]
theorem mkC_take (k : Int) (n j : Nat) (h : j < n) : (mkC k n).take (j + 1) = (mkC k n).take j ++ [(floatOfInt .f32 (k + 2 * j), Fl.nc (k + 2 * j + 1), 1065353216)] := by
  rw [getDC_take_succ _ _ (by rw [mkC_length]; exact h), mkC_getD n k j h]
theorem markC_step (l ms : List CV) (j : Nat) (x : CV) (h : j < l.length) (hm : ms.length = l.length) (hx : ms.take (j + 1) = ms.take j ++ [x]) :
    ((cells (ms.take j ++ l.drop j)).set (j * 2) (.float .f32 x.1)).set (j * 2 + 1) (.complex .f32 x.2.1 x.2.2) = cells (ms.take (j + 1) ++ l.drop (j + 1)) := by
  rcases cells_set (ms.take j ++ l.drop j) j x with e | e
  · rw [e]
    congr 1
    have hl : (ms.take j).length = j := by simp; omega
    rw [List.set_append_right _ _ (by omega), hl, Nat.sub_self, hx, List.drop_eq_getElem_cons h, List.set_cons_zero, List.append_assoc]
    rfl
  · simp at e; omega

set_option maxRecDepth 100000 in
set_option maxHeartbeats 400000 in
theorem markCS_any (B : Nat) (v : Value) (l : List CV) (k : Int) (w : World) (hO : Oc w B v l) (hlen : l.length ≤ 1048576) (hk0 : 0 ≤ k) (hk : k ≤ 1000000) :
    Calls Try.prog 55 #[v, .int .i64 k] w fun e w' => e = .returned (.int .i64 (k + 2 * l.length)) ∧ Oc w' B v (mkC k l.length) ∧ Only (fun j => v.ownBlock = some j) w w' := by
  have hO' := hO
  rcases hO.2 with ⟨rfl, h0⟩ | ⟨g, cap, cur, rfl, hB, hg, hn, hm, hcs, ht⟩
  · have hz : l = [] := List.eq_nil_of_length_eq_zero h0
    subst hz
    go_enter Try.func55, Try.ntmps55
    go_wp2
    refine wp_loop_rounds 1 ?_
    rw [rounds_succ]
    go_wp2
    go_ret
    exact ⟨by simp, hO', Only.refl _ _⟩
  · clear hg hcs ht
    have hone := fun wx : World => Fl.cvbits_one wx
    go_enter Try.func55, Try.ntmps55
    go_wp2
    go_loopw [1, 5] (fun q i wr => ∃ j : Nat, j ≤ l.length ∧ i = .int .i64 j ∧ q = .int .i64 (k + 2 * (j : Int)) ∧ wr.ownsRow B 48 2 (.slice (some ⟨g, 0, none⟩) l.length cap) l.length (cells ((mkC k l.length).take j ++ l.drop j)) ∧ Only (fun j => Value.ownBlock (.slice (some ⟨g, 0, none⟩) l.length cap) = some j) w wr) (fun _ i _ => l.length - (intOf i).toNat)
    case atStart => exact ⟨0, Nat.zero_le _, rfl, by simp, by simpa [Oc] using hO', Only.refl _ _⟩
    case round =>
      obtain ⟨j, hj, rfl, rfl, hown, hbw⟩ := hrel
      by_cases hlt : j < l.length
      · have hLl : (((mkC k l.length).take j ++ l.drop j)).length = l.length := by simp [mkC_length]; omega
        obtain ⟨q1, q2⟩ := cells_at ((mkC k l.length).take j ++ l.drop j) j (by omega)
        have hw1 := (hown.cellAt (j * 2) (by omega)).trans q1
        have hfz1 := hown.frozenAt (j * 2)
        have hst1 := (hown.stored (j * 2) (.float .f32 (floatOfInt .f32 (k + 2 * j)))).1
        have hw2 := (hown.cellAt (j * 2 + 1) (by omega)).trans q2
        have hw2' := (World.cell?_setCell_other wr ⟨g, j * 2, none⟩ ⟨g, j * 2 + 1, none⟩ (.float .f32 (floatOfInt .f32 (k + 2 * j))) (by simp)).trans hw2
        have hfz2 := hst1.frozenAt (j * 2 + 1)
        have hst2 := Lib.hid (hst1.stored (j * 2 + 1) (.complex .f32 (Fl.nc (k + 2 * j + 1)) 1065353216)).1
        clear hst1 q1 q2 hLl hw2
        generalize ((mkC k l.length).take j ++ l.drop j).getD j c0 = z at *
        have hcv := fun wx : World => Fl.cvbits_int wx (k + 2 * (j : Int) + 1) (by omega)
        go_wp2
        go_roundw
        case rel =>
          have h := hst2.out
          rw [markC_step l (mkC k l.length) j (floatOfInt .f32 (k + 2 * j), Fl.nc (k + 2 * j + 1), 1065353216) hlt (mkC_length _ _) (mkC_take k l.length j hlt)] at h
          exact ⟨j + 1, by omega, by go_num, by congr 1; omega, h, (Only.drewN (hbw.setCell (p := ⟨g, j * 2, none⟩) rfl _) _).setCell (p := ⟨g, j * 2 + 1, none⟩) rfl _⟩
        case measure => simp [intOf]; omega
      · have hke : j = l.length := by omega
        subst hke
        go_wp2
        go_ret
        refine ⟨rfl, ?_, hbw⟩
        unfold Oc
        rw [mkC_length]
        simpa [List.take_of_length_le, mkC_length] using hown


set_option maxRecDepth 100000 in
set_option maxHeartbeats 400000 in
theorem heldCS_any (v : Value) (k : Int) (n : Nat) (w : World) (hR : Rc w v (mkC k n)) (hlen : n ≤ 1048576) (hk0 : 0 ≤ k) (hk : k ≤ 1000000) :
    Calls Try.prog 56 #[v, .int .i64 k] w fun e w' => e = .returned (.int .i64 (k + 2 * n)) ∧ Below w.heap.size w w' := by
  rcases hR with ⟨o, c, rfl, h0⟩ | ⟨b, off, cap, rfl, h1, h2, hc⟩
  · have hz : n = 0 := by rw [← mkC_length n k, h0]; rfl
    subst hz
    go_enter Try.func56, Try.ntmps56
    go_wp2
    refine wp_loop_rounds 1 ?_
    rw [rounds_succ]
    go_wp2
    go_ret
    exact ⟨by simp, Below.refl _ _⟩
  · rw [mkC_length] at h1 hc ⊢
    have HC := Lib.hid hc
    clear hc
    have hone := fun wx : World => Fl.cvbits_one wx
    have hos := Fl.one_self
    go_enter Try.func56, Try.ntmps56
    go_wp2
    go_loopw [1, 5] (fun q i wr => ∃ j : Nat, j ≤ n ∧ i = .int .i64 j ∧ q = .int .i64 (k + 2 * (j : Int)) ∧ Below w.heap.size w wr) (fun _ i _ => n - (intOf i).toNat)
    case atStart => exact ⟨0, Nat.zero_le _, rfl, by simp, Below.refl _ _⟩
    case round =>
      obtain ⟨j, hj, rfl, rfl, hbw⟩ := hrel
      by_cases hlt : j < n
      · obtain ⟨g1, g2⟩ := HC.out j hlt
        rw [mkC_getD n k j hlt] at g1 g2
        dsimp only at g1 g2
        rw [← hbw.cell (p := ⟨b, off + j * 2, none⟩) (World.block_lt_of_cell? _ _ g1)] at g1
        rw [← hbw.cell (p := ⟨b, off + j * 2 + 1, none⟩) (World.block_lt_of_cell? _ _ g2)] at g2
        have hn1 : (FloatKind.f32.format.order (floatOfInt .f32 (k + 2 * j)) (floatOfInt .f32 (k + 2 * j)) != some .eq) = false := by rw [Fl.order_self (k := .f32) (floatOfInt_notNaN _ _)]; rfl
        have hn2 : (FloatKind.f32.format.order (Fl.nc (k + 2 * j + 1)) (Fl.nc (k + 2 * j + 1)) == some .eq) = true := by rw [Fl.order_self (k := .f32) (Fl.nc_spec (k + 2 * (j : Int) + 1) (by omega)).2]; rfl
        have hcv := fun wx : World => Fl.cvbits_int wx (k + 2 * (j : Int) + 1) (by omega)
        go_wp2
        go_roundw
        case rel => exact ⟨j + 1, by omega, by go_num, by congr 1; omega, by repeat (first | exact hbw | refine below_drewN ?_ _)⟩
        case measure => simp [intOf]; omega
      · have hke : j = n := by omega
        subst hke
        go_wp2
        go_ret
        exact ⟨rfl, hbw⟩

end Go.Proofs.Ytbjllfnjecggfaa
