/- Walks: BurstColour, the program's. -/
import Derived.Test.YtbjllfnjecggfaaDd
import Derived.Test.YtbjllfnjecggfaaWh
import Derived.StillTailTactics
namespace Go.Proofs.Ytbjllfnjecggfaa
open Go.RowKit
theorem lBurst16 {xs : List Nat} (h : lineB xs = true) : (lBurst xs).length = 16 := by
  have := (lineB_len h).1; unfold lBurst; rw [List.length_take, List.length_drop]; omega
abbrev f0 : FV := (none, none, none)
def accF (D : List FV) : Nat → Option Nat × Option Nat
  | 0 => (D.getD 0 f0).2
  | n + 1 => (Fl.fop .add .f32 (accF D n).1 (D.getD (n + 1) f0).2.1, Fl.fop .add .f32 (accF D n).2 (D.getD (n + 1) f0).2.2)
def BcPost (w : World) (q : Bool) (D : List FV) (e : Ending) (w' : World) : Prop :=
  ∃ re im, e = .returned (.tuple #[.complex .f32 re im, .bool q]) ∧ (Fl.fv .f32 re, Fl.fv .f32 im) = (if q then (Fl.fop .quo .f32 (accF D 3).1 (Fl.fv .f32 1082130432), Fl.fop .quo .f32 (accF D 3).2 (Fl.fv .f32 1082130432)) else (Fl.fv .f32 0, Fl.fv .f32 0)) ∧ Below w.heap.size w w'

theorem acc0 {l : List CV} {D : List FV} (h : l.map fvc = D) (h0 : 0 < l.length) : (Fl.fv .f32 (l.getD 0 c0).2.1, Fl.fv .f32 (l.getD 0 c0).2.2) = accF D 0 := by
  subst h; unfold accF; simp [List.getD, h0, fvc]
theorem acc_succ {l : List CV} {D : List FV} (h : l.map fvc = D) (j : Nat) (hj : j + 1 < l.length) (re im : Nat) {a b : Nat} (hs : (Fl.fv .f32 a, Fl.fv .f32 b) = accF D j)
    (hr : Fl.fv .f32 re = Fl.fop .add .f32 (Fl.fv .f32 a) (Fl.fv .f32 (l.getD (j + 1) c0).2.1)) (hi : Fl.fv .f32 im = Fl.fop .add .f32 (Fl.fv .f32 b) (Fl.fv .f32 (l.getD (j + 1) c0).2.2)) : (Fl.fv .f32 re, Fl.fv .f32 im) = accF D (j + 1) := by
  subst h; unfold accF; rw [hr, hi, ← hs]; simp [List.getD, hj, fvc]
theorem fin4 {D : List FV} {a b re im : Nat} (h : (Fl.fv .f32 a, Fl.fv .f32 b) = accF D 3) (hr : Fl.fv .f32 re = Fl.fop .quo .f32 (Fl.fv .f32 a) (Fl.fv .f32 1082130432)) (hi : Fl.fv .f32 im = Fl.fop .quo .f32 (Fl.fv .f32 b) (Fl.fv .f32 1082130432)) :
    (Fl.fv .f32 re, Fl.fv .f32 im) = (Fl.fop .quo .f32 (accF D 3).1 (Fl.fv .f32 1082130432), Fl.fop .quo .f32 (accF D 3).2 (Fl.fv .f32 1082130432)) := by
  rw [hr, hi, ← h]

set_option maxRecDepth 100000 in
theorem plus_any (a b c d : Nat) (w : World) : Calls Try.prog 117 #[.complex .f32 a b, .complex .f32 c d] w fun e w' => ∃ re im, e = .returned (.complex .f32 re im) ∧ Fl.fv .f32 re = Fl.fop .add .f32 (Fl.fv .f32 a) (Fl.fv .f32 c) ∧ Fl.fv .f32 im = Fl.fop .add .f32 (Fl.fv .f32 b) (Fl.fv .f32 d) ∧ Below w.heap.size w w' := by
  go_enter Try.func117, Try.ntmps117
  go_wp2
  all_goals
    go_ret
    exact ⟨_, _, rfl, by rw [Fl.fv_fbits], by rw [Fl.fv_fbits], by repeat (first | exact Below.refl _ _ | refine below_drewN ?_ _ | refine Below.drew ?_)⟩

set_option maxRecDepth 100000 in
set_option maxHeartbeats 1000000 in
theorem bcI_true (v : Value) (xs : List Nat) (w : World) (hR : Rf w v xs) (hlen : xs.length ≤ 1048576) (hb : lineB xs = true) (hq : decOk (lBurst xs) false = true) :
    Calls Try.prog 69 #[v] w (BcPost w true (decl (lBurst xs) false 4)) := by
  have HB := Lib.hid hb
  have HQ := Lib.hid hq
  have HL := Lib.hid (lBurst16 hb)
  clear hb hq
  go_enter Try.func69, Try.ntmps69
  go_wp2_with fail
  refine (burstI_yes _ _ _ hR hlen HB.out).mono ?_
  rintro e w1 ⟨u, rfl, hO, hb1⟩
  go_wp2_with fail
  refine (decI_all _ _ false true _ hO.rf (by rw [HL.out]; omega) HQ.out).mono ?_
  rintro e w2 ⟨r, l, rfl, hOc, hf, hb2⟩
  have hf' : l.map fvc = decl (lBurst xs) false 4 := by have e := HL.out; rw [e] at hf; exact hf
  clear hf
  generalize hD : decl (lBurst xs) false 4 = D at *
  have hll : l.length = 4 := by rw [map_len hf', ← hD]; simp [decl]
  have HF := Lib.hid hf'
  clear hf' hD
  have hb3 := hb1.trans (hb2.mono hb1.size)
  rcases hOc.rc with ⟨o, c, rfl, rfl⟩ | ⟨b, off, cap, rfl, h1, h2, hc⟩
  · simp at hll
  have H0 := Lib.hid (acc0 HF.out (by omega))
  have HS := Lib.hid (fun j (hj : j < 3) => acc_succ (l := l) HF.out j (by omega))
  have HC := Lib.hid (fun j (hj : j < 3) => hc (j + 1) (by omega))
  obtain ⟨c1, d1⟩ := hc 0 (by omega)
  clear hc hOc
  rw [hll] at *
  generalize l.getD 0 c0 = x0 at *
  go_wp2_with fail
  refine (lineI_any _ _ true _ (hR.below hb3) hlen HB.out).mono ?_
  rintro e w3 ⟨rfl, rfl⟩
  go_wp2
  go_loopw [6, 29] (fun s i wr => ∃ (j a b : Nat), j ≤ 3 ∧ i = .int .i64 j ∧ s = .complex .f32 a b ∧ Hid ((Fl.fv .f32 a, Fl.fv .f32 b) = accF D j) ∧ Below w2.heap.size w2 wr ∧ Below w.heap.size w wr) (fun _ i _ => 3 - (intOf i).toNat)
  case atStart => exact ⟨0, _, _, by omega, rfl, rfl, H0, Below.refl _ _, hb3⟩
  case round =>
    obtain ⟨j, a, b', hj, rfl, rfl, hs, hbw, hbw'⟩ := hrel
    by_cases hlt : j < 3
    · obtain ⟨g1, g2⟩ := HC.out j hlt
      rw [show off + (j + 1) * 2 = off + 2 + j * 2 by omega] at g1 g2
      rw [← hbw.cell (p := ⟨b, off + 2 + j * 2, none⟩) (World.block_lt_of_cell? _ _ g1)] at g1
      rw [← hbw.cell (p := ⟨b, off + 2 + j * 2 + 1, none⟩) (World.block_lt_of_cell? _ _ g2)] at g2
      have hst := Lib.hid (fun re im => HS.out j hlt re im hs.out)
      have hbs := hbw.size
      have hbs' := hbw'.size
      generalize l.getD (j + 1) c0 = x at *
      go_wp2
      go_roundw
      case rel => exact ⟨j + 1, _, _, by omega, by go_num, rfl, Lib.hid (hst.out _ _ (by rw [Fl.fv_fbits]) (by rw [Fl.fv_fbits])), by repeat (first | exact hbw | refine below_drewN ?_ _ | refine Below.drew ?_ | refine Below.alloc ?_ (by omega) _), by repeat (first | exact hbw' | refine below_drewN ?_ _ | refine Below.drew ?_ | refine Below.alloc ?_ (by omega) _)⟩
      case measure => simp [intOf]; omega
    · have hke : j = 3 := by omega
      subst hke
      go_wp2
      all_goals
        go_ret2
        exact ⟨_, _, rfl, fin4 hs.out (by rw [Fl.fv_fbits]) (by rw [Fl.fv_fbits]), by repeat (first | exact hbw' | refine below_drewN ?_ _ | refine Below.drew ?_)⟩
end Go.Proofs.Ytbjllfnjecggfaa
