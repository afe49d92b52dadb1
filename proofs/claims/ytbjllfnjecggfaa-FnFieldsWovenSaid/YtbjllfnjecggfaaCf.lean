/- Walks: the law's own helpers on slices of cells: eqCell, eqCellS, markCellS, heldCellS. -/
import Derived.Test.YtbjllfnjecggfaaCe
import Derived.Test.YtbjllfnjecggfaaEr
import Derived.StillTailTactics
namespace Go.Proofs.Ytbjllfnjecggfaa
open Go.RowKit

def Smc (a b : List CV) : Prop := a.map fvc = b.map fvc
theorem Smc.len {a b : List CV} (h : Smc a b) : a.length = b.length := by have := congrArg List.length h; simpa using this
theorem Smc.at {a b : List CV} (h : Smc a b) (j : Nat) (hj : j < a.length) : fvc (a.getD j c0) = fvc (b.getD j c0) := by
  have hl := h.len
  have h2 := congrArg (fun l => l[j]?) h
  simp [hj, hl ▸ hj] at h2
  simp [List.getD, hj, hl ▸ hj, h2]

set_option maxRecDepth 100000 in
set_option maxHeartbeats 400000 in
theorem eqCell_any (c d : CV) (w : World) (h : fvc c = fvc d) : Calls Try.prog 103 #[aggC c, aggC d] w fun e w' => e = .returned (.bool true) ∧ Below w.heap.size w w' := by
  obtain ⟨y, a, b⟩ := c
  obtain ⟨y', a', b'⟩ := d
  have h1 := Lib.hid (congrArg Prod.fst h)
  have h2 := Lib.hid (congrArg (fun p => p.2.1) h)
  have h3 := Lib.hid (congrArg (fun p => p.2.2) h)
  clear h
  show Calls Try.prog 103 #[.agg #[.float .f32 y, .complex .f32 a b], .agg #[.float .f32 y', .complex .f32 a' b']] w _
  go_enter Try.func103, Try.ntmps103
  go_wp2_with (first | (go_at_call 83; refine (sameF_any _ _ _ (by rw [Fl.fv_widen, Fl.fv_widen]; exact congrArg Fl.widen h1.out)).mono ?_; rintro e w' ⟨rfl, n, rfl⟩) | (go_at_call 70; refine (sameC_any _ _ _ _ _ (by rw [Fl.fv_widen, Fl.fv_widen]; exact congrArg Fl.widen h2.out) (by rw [Fl.fv_widen, Fl.fv_widen]; exact congrArg Fl.widen h3.out)).mono ?_; rintro e w' ⟨rfl, m, rfl⟩))
  go_ret
  exact ⟨rfl, by repeat (first | exact Below.refl _ _ | refine below_drewN ?_ _ | refine Below.alloc ?_ (by simp) _)⟩

set_option maxRecDepth 100000 in
set_option maxHeartbeats 400000 in
theorem eqCS_any (u v : Value) (xs ys : List CV) (w : World) (hU : Rc w u xs) (hV : Rc w v ys) (hs : Smc xs ys) (hlen : xs.length ≤ 1048576) :
    Calls Try.prog 54 #[u, v] w fun e w' => e = .returned (.bool true) ∧ Below w.heap.size w w' := by
  have hl := hs.len
  by_cases h0 : xs.length = 0
  · obtain ⟨a, c, rfl⟩ := hU.form
    obtain ⟨a', c', rfl⟩ := hV.form
    have h0' : ys.length = 0 := by omega
    rw [h0, h0']
    clear hs hl h0 h0' hU hV
    go_enter Try.func54, Try.ntmps54
    go_wp2
    refine wp_loop_rounds 1 ?_
    rw [rounds_succ]
    go_wp2
    go_ret
    exact ⟨rfl, Below.refl _ _⟩
  · rcases hU with ⟨o, c, rfl, e⟩ | ⟨b, off, cap, rfl, h1, h2, hc⟩
    · subst e; simp at h0
    rcases hV with ⟨o', c', rfl, e⟩ | ⟨b', off', cap', rfl, h1', h2', hc'⟩
    · subst e; simp at hl; subst hl; simp at h0
    rw [← hl] at h1' hc' ⊢
    have HC := Lib.hid hc
    have HC' := Lib.hid hc'
    clear hc hc' hl h0
    go_enter Try.func54, Try.ntmps54
    go_wp2
    go_loopw [5] (fun i wr => ∃ j : Nat, j ≤ xs.length ∧ i = .int .i64 j ∧ Below w.heap.size w wr) (fun i _ => xs.length - (intOf i).toNat)
    case atStart => exact ⟨0, Nat.zero_le _, rfl, Below.refl _ _⟩
    case round =>
      obtain ⟨j, hj, rfl, hbw⟩ := hrel
      by_cases hlt : j < xs.length
      · obtain ⟨g1, g2⟩ := HC.out j hlt
        obtain ⟨g1', g2'⟩ := HC'.out j hlt
        rw [← hbw.cell (p := ⟨b, off + j * 2, none⟩) (World.block_lt_of_cell? _ _ g1)] at g1
        rw [← hbw.cell (p := ⟨b, off + j * 2 + 1, none⟩) (World.block_lt_of_cell? _ _ g2)] at g2
        rw [← hbw.cell (p := ⟨b', off' + j * 2, none⟩) (World.block_lt_of_cell? _ _ g1')] at g1'
        rw [← hbw.cell (p := ⟨b', off' + j * 2 + 1, none⟩) (World.block_lt_of_cell? _ _ g2')] at g2'
        have hsm := Lib.hid (hs.at j hlt)
        generalize xs.getD j c0 = x at *
        generalize ys.getD j c0 = y at *
        obtain ⟨x1, x2, x3⟩ := x
        obtain ⟨y1, y2, y3⟩ := y
        dsimp only at g1 g2 g1' g2'
        go_wp2
        go_still_tail 8, (by kernel_rfl)
        change wpList _ _ _ _ _ wr.drew
        go_wp2_with (go_at_call 103; refine (eqCell_any (x1, x2, x3) (y1, y2, y3) _ hsm.out).mono ?_; rintro e w1 ⟨rfl, hb1⟩)
        go_roundw
        case rel => exact ⟨j + 1, by omega, by go_num, (hbw.drew).trans (hb1.mono hbw.size)⟩
        case measure => simp [intOf]; omega
      · have hke : j = xs.length := by omega
        subst hke
        go_wp2
        go_ret
        exact ⟨rfl, hbw⟩

end Go.Proofs.Ytbjllfnjecggfaa
