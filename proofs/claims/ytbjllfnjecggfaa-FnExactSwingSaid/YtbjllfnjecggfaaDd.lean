/- Walks: Colouring, the reference's. -/
import Derived.Test.YtbjllfnjecggfaaDc
namespace Go.Proofs.Ytbjllfnjecggfaa
open Go.RowKit

set_option maxRecDepth 100000 in
set_option maxHeartbeats 2000000 in
theorem colS_any (v : Value) (xs : List Nat) (q : Bool) (w : World) (hR : Rf w v xs) (hlen : xs.length ≤ 1048576) (hq : decOk xs false = q) :
    Calls Try.prog 57 #[v] w (ColPost w q xs (decl xs false (xs.length / 4))) := by
  obtain ⟨i0, hi, hz0, hz1, hz2⟩ := info_parts info36
  have hR0 : Rf (w.alloc (.cells #[] 36)) v xs := hR.below ((Below.refl _ _).alloc (Nat.le_refl _) _)
  have hk := brS_any v xs q _ hR0 hlen hq
  have hb0 : Below w.heap.size w (w.alloc (.cells #[] 36)) := (Below.refl _ _).alloc (Nat.le_refl _) _
  cases q
  · clear hq
    unfold ColPost
    unfold BrPost at hk
    simp only [Bool.false_eq_true, ↓reduceIte] at hk ⊢
    go_enter Try.func57, Try.ntmps57
    go_wp2_with fail
    refine hk.mono ?_
    rintro e w1 ⟨r, zs, rfl, hO, hf, hb⟩
    have hl0 : zs = [] := List.map_eq_nil_iff.1 hf
    subst hl0
    obtain ⟨a, c, rfl⟩ := hO.rf.form
    clear hf
    go_wp2
    refine wp_loop_rounds 1 ?_
    rw [rounds_succ]
    go_wp2
    go_ret2
    exact ⟨_, [], rfl, own_below (own_nilrow w) hb, rfl, hb0.trans (hb.mono (by simp))⟩
  · have hE := brE_len hq
    have h256 := decOk_len hq
    clear hq
    rcases hR.split with ⟨o, c, rfl, e⟩ | ⟨b, off, cap, rfl, h1, h2, hc⟩
    · subst e; simp at h256
    unfold ColPost
    unfold BrPost at hk
    simp only [↓reduceIte] at hk ⊢
    generalize brF (decl xs false (xs.length / 4)) = E at *
    have HC := Lib.hid hc
    have HE := Lib.hid hE
    clear hc
    go_enter Try.func57, Try.ntmps57
    go_wp2_with fail
    refine hk.mono ?_
    rintro e w1 ⟨r, zs, rfl, hO, hf, hb⟩
    have hzl : zs.length = xs.length := by rw [← HE.out, ← hf, List.length_map]
    obtain ⟨g, cp, rfl, hg1, hg2, hn, hm⟩ := own_row hO (by omega)
    have HF := Lib.hid hf
    clear hf
    unfold Of at hO
    rw [hzl] at hO hn ⊢
    have hRow : w1.ownsRow w.heap.size 36 1 (.slice (some ⟨w.heap.size, 0, none⟩) 0 0) 0 [] := own_below (own_nilrow w) hb
    have hb1 : Below w.heap.size w w1 := hb0.trans (hb.mono (by simp))
    simp only [World.size_alloc] at hg1
    go_wp2
    go_loopw [4, 7] (fun o i wr => ∃ (j : Nat) (ms : List Nat), j ≤ xs.length ∧ i = .int .i64 j ∧ ms.length = j ∧ Of wr w.heap.size o ms ∧ Hid (ms.map (Fl.fv .f32) = (colv xs E).take j) ∧ Hid (∀ k, o.ownBlock = some k → k < w.heap.size + 1 ∨ w1.heap.size ≤ k) ∧ Below w.heap.size w wr ∧ Hid (wr.heap[g]? = w1.heap[g]?) ∧ w1.heap.size ≤ wr.heap.size) (fun _ i _ => xs.length - (intOf i).toNat)
    case atStart => exact ⟨0, [], Nat.zero_le _, rfl, rfl, hRow, Lib.hid rfl, Lib.hid (fun k hk => by cases hk; left; exact Nat.lt_succ_self _), hb1, Lib.hid rfl, Nat.le_refl _⟩
    case round =>
      obtain ⟨j, ms, hj, rfl, hml, hown, hms, hob, hbw, hkb, hsw⟩ := hrel
      by_cases hlt : j < xs.length
      · have hcell := HC.out j hlt
        rw [← hbw.cell (p := ⟨b, off + j, none⟩) (World.block_lt_of_cell? _ _ hcell)] at hcell
        have hw := (hO.cellAt j (by omega)).trans (show (zs.map fl)[j]? = some (fl (zs.getD j 0)) by simp [List.getD, hzl, hlt])
        rw [← World.cell?_of_block (w := w1) (w' := wr) (a := ⟨g, j, none⟩) hkb.out] at hw
        have hEj : E[j]? = some (Fl.fv .f32 (zs.getD j 0)) := by rw [← HF.out]; simp [List.getD, hzl, hlt]
        have hst := Lib.hid (colv_take_succ xs E j hlt _ hEj)
        clear hEj
        have hbs := hbw.size
        have hmle : ms.length ≤ 256 := by omega
        have HM := Lib.hid hml
        clear hml
        generalize xs.getD j 0 = x at *
        generalize zs.getD j 0 = y at *
        go_wp2
        go_region_law (refine step_append_at _ rfl (.tmp 23) (.tmp 33) 22 rfl w.heap.size 36 i0 (.float .f32 0) 1 4 Try.underlying22 hi hz0 hz1 hz2 rfl (by decide) u4 ms.length (ms.map fl) rfl (hown.alloc _) ⟨wr.heap.size, 0, none⟩ 1 1 [fl (Fl.fbits wr.drew .sub .f32 x y)] rfl rfl (cells_fl _ _ _) (by simp [Value.oneCell']) (by unfold maxLen; omega) (by omega) (by have := hbw.size; simp; omega) (by omega) ?_; intro v' w2 hown2 hgrow2 hat2)
        all_goals
          have hgrow2 : World.grownBy _ w2 u4.ownBlock := hgrow2
          have hat2 : ∀ k, v'.ownBlock = some k → u4.ownBlock = some k ∨ w1.heap.size ≤ k := fun k hk => (hat2 k hk).imp_right (fun h => Nat.le_trans hsw (by simp at h; omega))
          have hb2 : Below w.heap.size w w2 := Below.grown (by repeat (first | exact hbw | refine below_drewN ?_ _ | refine Below.drew ?_ | refine Below.alloc ?_ (by have := hbw.size; simp; omega) _)) hgrow2 (by have := hbw.size; simp; omega) (fun k hk => (hown.lt k hk).1)
          have hob2 := Lib.hid (ob_next (s := w1.heap.size) hob.out hat2 (Nat.le_refl _))
          have hk2 : Hid (w2.heap[g]? = w1.heap[g]?) := Lib.hid (kept_at hgrow2 (show g < wr.heap.size by omega) (fun h => by rcases hob.out g h with h' | h' <;> omega) hkb.out)
          have hs2 : w1.heap.size ≤ w2.heap.size := by have := hgrow2.size; simp at this; omega
          clear hat2 hgrow2
          go_wp2
          go_roundw
          case rel => exact ⟨j + 1, ms ++ [_], by omega, by go_num, by rw [List.length_append, HM.out]; rfl, of_snoc hown2, Lib.hid (by rw [List.map_append, hms.out, hst.out, List.map_singleton, Fl.fv_fbits]), hob2, hb2, hk2, hs2⟩
          case measure => simp [intOf]; omega
      · have hke : j = xs.length := by omega
        subst hke
        go_wp2
        go_ret2
        refine ⟨_, ms, rfl, hown, ?_, hbw⟩
        rw [hms.out, List.take_of_length_le (by rw [colv_len _ _ HE.out]; exact Nat.le_refl _)]
end Go.Proofs.Ytbjllfnjecggfaa
