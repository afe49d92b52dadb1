/- Walks: Colouring, the program's. -/
import Derived.Test.YtbjllfnjecggfaaDb
import Derived.StillTailTactics
namespace Go.Proofs.Ytbjllfnjecggfaa
open Go.RowKit

def colv (xs : List Nat) (E : List (Option Nat)) : List (Option Nat) := List.zipWith (fun x e => Fl.fop .sub .f32 (Fl.fv .f32 x) e) xs E
theorem colv_len (xs : List Nat) (E : List (Option Nat)) (h : E.length = xs.length) : (colv xs E).length = xs.length := by simp [colv, h]
theorem colv_take_succ (xs : List Nat) (E : List (Option Nat)) (j : Nat) (h : j < xs.length) (y : Nat) (hy : E[j]? = some (Fl.fv .f32 y)) :
    (colv xs E).take (j + 1) = (colv xs E).take j ++ [Fl.fop .sub .f32 (Fl.fv .f32 (xs.getD j 0)) (Fl.fv .f32 y)] := by
  rw [List.take_add_one]
  congr 1
  have : (colv xs E)[j]? = some (Fl.fop .sub .f32 (Fl.fv .f32 xs[j]) (Fl.fv .f32 y)) := by
    unfold colv; simp [List.getElem?_zipWith, h, hy]
  rw [this]; simp [List.getD, h]
theorem col_step (xs ms : List Nat) (E : List (Option Nat)) (j b : Nat) (hms : ms.map (Fl.fv .f32) = (colv xs E).take j ++ E.drop j) (hl : E.length = xs.length) (h : j < xs.length)
    (hb : Fl.fv .f32 b = Fl.fop .sub .f32 (Fl.fv .f32 (xs.getD j 0)) (Fl.fv .f32 (ms.getD j 0))) : (ms.set j b).map (Fl.fv .f32) = (colv xs E).take (j + 1) ++ E.drop (j + 1) := by
  have hc := colv_len xs E hl
  have ht : ((colv xs E).take j).length = j := by simp; omega
  have hml : ms.length = xs.length := by have := congrArg List.length hms; simp at this; omega
  have hE : E[j]? = some (Fl.fv .f32 (ms.getD j 0)) := by
    have h2 := congrArg (fun l => l[j]?) hms
    simp only [List.getElem?_map] at h2
    rw [List.getElem?_append_right (by omega), ht, Nat.sub_self, List.getElem?_drop, Nat.add_zero] at h2
    rw [← h2]; simp [List.getD, hml, h]
  rw [List.map_set, hms, List.set_append_right _ _ (by omega), ht, Nat.sub_self, colv_take_succ xs E j h _ hE, List.drop_eq_getElem_cons (by omega), List.set_cons_zero, List.append_assoc, hb]
  rfl

def ColPost (w : World) (q : Bool) (xs : List Nat) (D : List FV) (e : Ending) (w' : World) : Prop :=
  ∃ r zs, e = .returned (.tuple #[r, .bool q]) ∧ Of w' w.heap.size r zs ∧ zs.map (Fl.fv .f32) = (if q then colv xs (brF D) else []) ∧ Below w.heap.size w w'

theorem brF_len (D : List FV) : (brF D).length = 4 * D.length := by
  unfold brF; induction D with
  | nil => rfl
  | cons x l ih => simp only [List.flatMap_cons, List.length_append, ih]; simp; omega
theorem brE_len {xs : List Nat} (h : decOk xs false = true) : (brF (decl xs false (xs.length / 4))).length = xs.length := by
  have := decOk_len h; rw [brF_len]; simp only [decl, List.length_map, List.length_range]; omega
theorem own_row {w : World} {B : Nat} {r : Value} {zs : List Nat} (h : Of w B r zs) (h0 : zs.length ≠ 0) : ∃ g cap, r = .slice (some ⟨g, 0, none⟩) zs.length cap ∧ B ≤ g ∧ g < w.heap.size ∧ zs.length ≤ cap ∧ cap ≤ maxLen := by
  rcases h.2 with ⟨rfl, h0'⟩ | ⟨g, cap, cur, rfl, hB, hg, hn, hm, hcs, ht⟩
  · exact absurd h0' h0
  · exact ⟨g, cap, rfl, hB, (Array.getElem?_eq_some_iff.1 hg).1, hn, hm⟩

set_option maxRecDepth 100000 in
set_option maxHeartbeats 2000000 in
theorem colI_any (v : Value) (xs : List Nat) (q : Bool) (w : World) (hR : Rf w v xs) (hlen : xs.length ≤ 1048576) (hq : decOk xs false = q) :
    Calls Try.prog 51 #[v] w (ColPost w q xs (decl xs false (xs.length / 4))) := by
  have hk := brI_any v xs q w hR hlen hq
  cases q
  · clear hq
    go_enter Try.func51, Try.ntmps51
    go_wp2_with (go_at_call 46; refine hk.mono ?_; rintro e w1 ⟨r, zs, rfl, hO, hf, hb⟩; clear hf)
    go_ret2
    exact ⟨_, [], rfl, World.ownsRow_nil _ _ _ _, rfl, hb⟩
  · have hE := brE_len hq
    have h256 := decOk_len hq
    clear hq
    rcases hR.split with ⟨o, c, rfl, e⟩ | ⟨b, off, cap, rfl, h1, h2, hc⟩
    · subst e; simp at h256
    unfold ColPost
    unfold BrPost at hk
    simp only [↓reduceIte] at hk ⊢
    generalize brF (decl xs false (xs.length / 4)) = E at *
    have HC := Lib.hid hc
    have HE := Lib.hid hE
    clear hc
    go_enter Try.func51, Try.ntmps51
    go_wp2_with fail
    refine hk.mono ?_
    rintro e w1 ⟨r, zs, rfl, hO, hf, hb⟩
    have hzl : zs.length = xs.length := by rw [← HE.out, ← hf, List.length_map]
    obtain ⟨g, cp, rfl, hg1, hg2, hn, hm⟩ := own_row hO (by omega)
    have HF := Lib.hid hf
    clear hf
    unfold Of at hO
    rw [hzl] at hO hn ⊢
    go_wp2
    go_loopw [17] (fun i wr => ∃ (j : Nat) (ms : List Nat), j ≤ xs.length ∧ i = .int .i64 j ∧ wr.ownsRow w.heap.size 36 1 (.slice (some ⟨g, 0, none⟩) xs.length cp) xs.length (ms.map fl) ∧ Hid (ms.map (Fl.fv .f32) = (colv xs E).take j ++ E.drop j) ∧ ms.length = xs.length ∧ Below w.heap.size w wr) (fun i _ => xs.length - (intOf i).toNat)
    case atStart => exact ⟨0, zs, Nat.zero_le _, rfl, hO, Lib.hid (by simpa using HF.out), hzl, hb⟩
    case round =>
      obtain ⟨j, ms, hj, rfl, hown, hms, hml, hbw⟩ := hrel
      by_cases hlt : j < xs.length
      · have hcell := HC.out j hlt
        rw [← hbw.cell (p := ⟨b, off + j, none⟩) (World.block_lt_of_cell? _ _ hcell)] at hcell
        have hw := (hown.cellAt j (by omega)).trans (show (ms.map fl)[j]? = some (fl (ms.getD j 0)) by simp [List.getD, hml, hlt])
        have hfz := hown.frozenAt j
        have hst := Lib.hid (fun y => col_step xs ms E j y hms.out HE.out hlt)
        have hso := Lib.hid (fun n y => (own_below hown (below_drewN (Below.refl _ _) n)).stored j (fl y))
        have hbs := hbw.size
        generalize xs.getD j 0 = x at *
        generalize ms.getD j 0 = y at *
        go_wp2
        go_roundw
        case rel => exact ⟨j + 1, ms.set j _, by omega, by go_num, by rw [List.map_set]; exact (hso.out _ _).1, Lib.hid (hst.out _ (by rw [Fl.fv_fbits])), by rw [List.length_set]; exact hml, Below.setCell (below_drewN hbw _) hg1 _⟩
        case measure => simp [intOf]; omega
      · have hke : j = xs.length := by omega
        subst hke
        go_wp2
        go_ret2
        refine ⟨_, ms, rfl, ?_, ?_, hbw⟩
        · unfold Of; rw [hml]; exact hown
        · rw [hms.out, List.take_of_length_le (by rw [colv_len _ _ HE.out]; exact Nat.le_refl _), List.drop_eq_nil_of_le (by rw [HE.out]; exact Nat.le_refl _), List.append_nil]
end Go.Proofs.Ytbjllfnjecggfaa
