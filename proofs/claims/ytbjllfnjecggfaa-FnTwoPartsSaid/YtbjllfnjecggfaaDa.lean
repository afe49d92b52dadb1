/- Walks: Brightness, the program's and the reference's. -/
import Derived.Test.YtbjllfnjecggfaaCg
namespace Go.Proofs.Ytbjllfnjecggfaa
open Go.RowKit

/-- is it a row that samples tell of? -/
def decOk (xs : List Nat) (odd : Bool) : Bool := decide (xs.length % 4 = 0) && rowOkF (decl xs odd (xs.length / 4))
theorem decI_all (v : Value) (xs : List Nat) (odd : Bool) (q : Bool) (w : World) (hR : Rf w v xs) (hlen : xs.length ≤ 1048576) (hq : decOk xs odd = q) :
    Calls Try.prog 49 #[v, .bool odd] w (DecPost w q (decl xs odd (xs.length / 4))) := by
  unfold decOk at hq
  by_cases h : xs.length % 4 = 0
  · rw [decide_eq_true h, Bool.true_and] at hq
    exact decI_any v xs odd q w hR hlen h hq
  · rw [decide_eq_false h, Bool.false_and] at hq
    subst hq
    exact (decI_odd4 v xs odd w hR hlen h).mono fun e w' ⟨r, he, hO, hb⟩ => ⟨r, [], he, hO, rfl, hb⟩
theorem decS_all (v : Value) (xs : List Nat) (odd : Bool) (q : Bool) (w : World) (hR : Rf w v xs) (hlen : xs.length ≤ 1048576) (hq : decOk xs odd = q) :
    Calls Try.prog 53 #[v, .bool odd] w (DecPost w q (decl xs odd (xs.length / 4))) := by
  unfold decOk at hq
  by_cases h : xs.length % 4 = 0
  · rw [decide_eq_true h, Bool.true_and] at hq
    exact decS_any v xs odd q w hR hlen h hq
  · rw [decide_eq_false h, Bool.false_and] at hq
    subst hq
    exact (decS_odd4 v xs odd w hR hlen h).mono fun e w' ⟨r, he, hO, hb⟩ => ⟨r, [], he, hO, rfl, hb⟩
theorem decOk_len {xs : List Nat} {odd : Bool} (h : decOk xs odd = true) : xs.length % 4 = 0 ∧ 4 ≤ xs.length ∧ xs.length ≤ 256 := by
  unfold decOk rowOkF at h
  rw [Bool.and_eq_true, Bool.and_eq_true, decide_eq_true_eq, decide_eq_true_eq] at h
  have : (decl xs odd (xs.length / 4)).length = xs.length / 4 := by simp [decl]
  omega

/-- each brightness four times -/
def br (l : List CV) : List Nat := l.flatMap fun c => [c.1, c.1, c.1, c.1]
def brF (D : List FV) : List (Option Nat) := D.flatMap fun c => [c.1, c.1, c.1, c.1]
theorem br_F (l : List CV) : (br l).map (Fl.fv .f32) = brF (l.map fvc) := by
  unfold br brF; induction l with
  | nil => rfl
  | cons c l ih => simp only [List.flatMap_cons, List.map_append, ih, List.map_cons, List.map_nil]; rfl
theorem br_len (l : List CV) : (br l).length = 4 * l.length := by
  unfold br; induction l with
  | nil => rfl
  | cons c l ih => simp only [List.flatMap_cons, List.length_append, ih, List.length_cons, List.length_nil]; omega
theorem br_take_succ (l : List CV) (j : Nat) (h : j < l.length) : br (l.take (j + 1)) = br (l.take j) ++ [(l.getD j c0).1, (l.getD j c0).1, (l.getD j c0).1, (l.getD j c0).1] := by
  rw [getDC_take_succ l j h]; unfold br; rw [List.flatMap_append]; simp

def BrPost (w : World) (q : Bool) (D : List FV) (e : Ending) (w' : World) : Prop :=
  ∃ r zs, e = .returned (.tuple #[r, .bool q]) ∧ Of w' w.heap.size r zs ∧ zs.map (Fl.fv .f32) = (if q then brF D else []) ∧ Below w.heap.size w w'

theorem cells_4 (w : World) (y e : Nat) : ∀ j u, ([fl y, fl y, fl y, fl y] : List Value)[j]? = some u → (w.alloc (.cells #[fl y, fl y, fl y, fl y] e)).cell? ((⟨w.heap.size, 0, none⟩ : Addr).add j) = some u := by
  intro j u hu
  match j with
  | 0 | 1 | 2 | 3 => simp at hu; subst hu; rw [Addr.add_lit]; simp
  | j + 4 => simp at hu
theorem cells_4g (w : World) (g y e : Nat) (hg : g = w.heap.size) : ∀ j u, ([fl y, fl y, fl y, fl y] : List Value)[j]? = some u → (w.alloc (.cells #[fl y, fl y, fl y, fl y] e)).cell? ((⟨g, 0, none⟩ : Addr).add j) = some u := by
  subst hg; exact cells_4 w y e
theorem of_app4 {w1 : World} {B : Nat} {v' : Value} {zs : List Nat} {y : Nat} (h : w1.ownsRow B 36 1 v' (zs.length + 4) (zs.map fl ++ [fl y, fl y, fl y, fl y])) : Of w1 B v' (zs ++ [y, y, y, y]) := by
  unfold Of; rw [List.length_append, List.map_append]; exact h

set_option maxRecDepth 100000 in
set_option maxHeartbeats 1000000 in
theorem brI_any (v : Value) (xs : List Nat) (q : Bool) (w : World) (hR : Rf w v xs) (hlen : xs.length ≤ 1048576) (hq : decOk xs false = q) :
    Calls Try.prog 46 #[v] w (BrPost w q (decl xs false (xs.length / 4))) := by
  obtain ⟨i0, hi, hz0, hz1, hz2⟩ := info_parts info36
  have HQ := Lib.hid hq
  cases q
  · clear hq
    generalize decl xs false (xs.length / 4) = D
    go_enter Try.func46, Try.ntmps46
    go_wp2_with (go_at_call 49; refine (decI_all _ xs false false _ hR hlen HQ.out).mono ?_; rintro e w1 ⟨r, l, rfl, hO, hf, hb⟩; clear hf)
    go_ret2
    exact ⟨_, [], rfl, World.ownsRow_nil _ _ _ _, rfl, hb⟩
  · have hD : (decl xs false (xs.length / 4)).length ≤ 64 := by have := decOk_len hq; simp [decl]; omega
    have hk := decI_all _ xs false true w hR hlen HQ.out
    generalize decl xs false (xs.length / 4) = D at *
    clear hq
    go_enter Try.func46, Try.ntmps46
    go_wp2_with fail
    refine hk.mono ?_
    rintro e w1 ⟨r, l, rfl, hO, hf, hb⟩
    have hf' : l.map fvc = D := hf
    have hll : l.length ≤ 64 := by rw [map_len hf']; exact hD
    have HF := Lib.hid hf'
    clear hf hf'
    have hRc := hO.rc
    have hO2 := Lib.hid hO
    rcases hRc with ⟨o, c, rfl, rfl⟩ | ⟨b, off, cap, rfl, h1, h2, hc⟩
    · go_wp2
      refine wp_loop_rounds 1 ?_
      rw [rounds_succ]
      go_wp2
      go_ret2
      exact ⟨_, [], rfl, World.ownsRow_nil _ _ _ _, by rw [← HF.out]; rfl, hb⟩
    · have HC := Lib.hid hc
      have hbs0 := hb.size
      clear hc hO
      go_wp2
      go_loopw [6, 8, 18] (fun o _ i wr => ∃ j : Nat, j ≤ l.length ∧ i = .int .i64 j ∧ Of wr w1.heap.size o (br (l.take j)) ∧ Below w1.heap.size w1 wr) (fun _ _ i _ => l.length - (intOf i).toNat)
      case atStart => exact ⟨0, Nat.zero_le _, rfl, World.ownsRow_nil _ _ _ _, Below.refl _ _⟩
      case round =>
        obtain ⟨j, hj, rfl, hown, hbw⟩ := hrel
        have hzl : (br (l.take j)).length ≤ 256 := by rw [br_len]; simp; omega
        have hbs := hbw.size
        by_cases hlt : j < l.length
        · obtain ⟨g1, g2⟩ := HC.out j hlt
          rw [← hbw.cell (p := ⟨b, off + j * 2, none⟩) (World.block_lt_of_cell? _ _ g1)] at g1
          rw [← hbw.cell (p := ⟨b, off + j * 2 + 1, none⟩) (World.block_lt_of_cell? _ _ g2)] at g2
          have hst := Lib.hid (br_take_succ l j hlt)
          generalize br (l.take j) = zs at *
          generalize l.getD j c0 = x at *
          obtain ⟨y, re, im⟩ := x
          dsimp only at g1 g2
          go_wp2_with (at_builtin; refine wpList_append_own _ rfl _ _ 22 rfl w1.heap.size 36 i0 (.float .f32 0) 1 4 Try.underlying22 hi hz0 hz1 hz2 rfl (by decide) _ zs.length (zs.map fl) rfl (own_below hown (by repeat (first | exact Below.refl _ _ | refine below_drewN ?_ _ | refine Below.setCell ?_ (by simp) _ | refine Below.alloc ?_ (by simp) _))) _ 4 4 [fl y, fl y, fl y, fl y] rfl rfl (cells_4g _ _ _ _ (by simp)) (by simp [Value.oneCell']) (by unfold maxLen; omega) (by omega) (by simp; omega) ?_; intro v' w2 hown2 hgrow2 _)
          have hb2 : Below w1.heap.size w1 w2 := Below.grown (by repeat (first | exact hbw | refine below_drewN ?_ _ | refine Below.setCell ?_ (by (try simp); omega) _ | refine Below.alloc ?_ (by (try simp); omega) _)) hgrow2 (by simp; omega) (fun k hk => (hown.lt k hk).1)
          go_roundw
          case rel => exact ⟨j + 1, by omega, by go_num, by rw [hst.out]; exact of_app4 hown2, hb2⟩
          case measure => simp [intOf]; omega
        · have hke : j = l.length := by omega
          subst hke
          go_wp2
          go_ret2
          refine ⟨_, br l, rfl, ?_, by rw [br_F, HF.out]; rfl, hb.trans (hbw.mono hbs0)⟩
          rw [List.take_of_length_le (Nat.le_refl _)] at hown
          exact own_base hown hbs0
end Go.Proofs.Ytbjllfnjecggfaa
