/- Walks: BurstColour, the rest. -/
import Derived.Test.YtbjllfnjecggfaaBa
namespace Go.Proofs.Ytbjllfnjecggfaa
open Go.RowKit

set_option maxRecDepth 100000 in
set_option maxHeartbeats 1000000 in
theorem bcI_no (v : Value) (xs ys : List Nat) (b : Bool) (D : List FV) (w : World) (hR : Rf w v xs) (hlen : xs.length ≤ 1048576) (hb : lineB xs = b) (hy : ys.length ≤ 1048576) (hq : decOk ys false = false)
    (hB : Calls Try.prog 40 #[v] w fun e w' => ∃ r, e = .returned r ∧ Of w' w.heap.size r ys ∧ Below w.heap.size w w') :
    Calls Try.prog 69 #[v] w (BcPost w false D) := by
  have HB := Lib.hid hb
  have HQ := Lib.hid hq
  clear hb hq
  go_enter Try.func69, Try.ntmps69
  go_wp2_with fail
  refine hB.mono ?_
  rintro e w1 ⟨u, rfl, hO, hb1⟩
  go_wp2_with fail
  refine (decI_all _ _ false false _ hO.rf hy HQ.out).mono ?_
  rintro e w2 ⟨r, l, rfl, hOc, hf, hb2⟩
  clear hf
  have hb3 := hb1.trans (hb2.mono hb1.size)
  go_wp2_with fail
  refine (lineI_any _ _ b _ (hR.below hb3) hlen HB.out).mono ?_
  rintro e w3 ⟨rfl, rfl⟩
  cases b
  all_goals
    go_wp2
    go_ret2
    exact ⟨_, _, rfl, rfl, hb3⟩
theorem decOk_nil : decOk [] false = false := by decide
theorem lBurst_le {xs : List Nat} (h : xs.length ≤ 1048576) : (lBurst xs).length ≤ 1048576 := Nat.le_trans (lBurst_len xs) h
def bcOk (xs : List Nat) : Bool := lineB xs && decOk (lBurst xs) false
theorem bcI_any (v : Value) (xs : List Nat) (q : Bool) (w : World) (hR : Rf w v xs) (hlen : xs.length ≤ 1048576) (hq : bcOk xs = q) :
    Calls Try.prog 69 #[v] w (BcPost w q (decl (lBurst xs) false 4)) := by
  unfold bcOk at hq
  cases hb : lineB xs
  · rw [hb, Bool.false_and] at hq
    subst hq
    exact bcI_no v xs [] false _ w hR hlen hb (by simp) decOk_nil (burstI_no v xs w hR hlen hb)
  · rw [hb, Bool.true_and] at hq
    cases q
    · exact bcI_no v xs _ true _ w hR hlen hb (lBurst_le hlen) hq (burstI_yes v xs w hR hlen hb)
    · exact bcI_true v xs w hR hlen hb hq

set_option maxRecDepth 100000 in
set_option maxHeartbeats 1000000 in
theorem bcS_no (v : Value) (xs ys : List Nat) (b : Bool) (D : List FV) (w : World) (hR : Rf w v xs) (hlen : xs.length ≤ 1048576) (hb : lineB xs = b) (hy : ys.length ≤ 1048576) (hq : decOk ys false = false)
    (hB : Calls Try.prog 39 #[v] w fun e w' => ∃ r, e = .returned r ∧ Of w' w.heap.size r ys ∧ Below w.heap.size w w') :
    Calls Try.prog 68 #[v] w (BcPost w false D) := by
  have HB := Lib.hid hb
  have HQ := Lib.hid hq
  clear hb hq
  go_enter Try.func68, Try.ntmps68
  go_wp2_with fail
  refine hB.mono ?_
  rintro e w1 ⟨u, rfl, hO, hb1⟩
  go_wp2_with fail
  refine (decS_all _ _ false false _ hO.rf hy HQ.out).mono ?_
  rintro e w2 ⟨r, l, rfl, hOc, hf, hb2⟩
  clear hf
  have hb3 := hb1.trans (hb2.mono hb1.size)
  go_wp2_with fail
  refine (lineS_any _ _ b _ (hR.below hb3) hlen HB.out).mono ?_
  rintro e w3 ⟨rfl, rfl⟩
  cases b
  all_goals
    go_wp2
    go_ret2
    exact ⟨_, _, rfl, rfl, hb3⟩

set_option maxRecDepth 100000 in
set_option maxHeartbeats 1000000 in
theorem bcS_true (v : Value) (xs : List Nat) (w : World) (hR : Rf w v xs) (hlen : xs.length ≤ 1048576) (hb : lineB xs = true) (hq : decOk (lBurst xs) false = true) :
    Calls Try.prog 68 #[v] w (BcPost w true (decl (lBurst xs) false 4)) := by
  have HB := Lib.hid hb
  have HQ := Lib.hid hq
  have HL := Lib.hid (lBurst16 hb)
  clear hb hq
  go_enter Try.func68, Try.ntmps68
  go_wp2_with fail
  refine (burstS_yes _ _ _ hR hlen HB.out).mono ?_
  rintro e w1 ⟨u, rfl, hO, hb1⟩
  go_wp2_with fail
  refine (decS_all _ _ false true _ hO.rf (by rw [HL.out]; omega) HQ.out).mono ?_
  rintro e w2 ⟨r, l, rfl, hOc, hf, hb2⟩
  have hf' : l.map fvc = decl (lBurst xs) false 4 := by have e := HL.out; rw [e] at hf; exact hf
  clear hf
  generalize hD : decl (lBurst xs) false 4 = D at *
  have hll : l.length = 4 := by rw [map_len hf', ← hD]; simp [decl]
  have HF := Lib.hid hf'
  clear hf' hD
  have hb3 := hb1.trans (hb2.mono hb1.size)
  rcases hOc.rc with ⟨o, c, rfl, rfl⟩ | ⟨b, off, cap, rfl, h1, h2, hc⟩
  · simp at hll
  have H0 := Lib.hid (acc0 HF.out (by omega))
  have HS := Lib.hid (fun j (hj : j < 3) => acc_succ (l := l) HF.out j (by omega))
  have HC := Lib.hid (fun j (hj : j < 3) => hc (j + 1) (by omega))
  obtain ⟨c1, d1⟩ := hc 0 (by omega)
  clear hc hOc
  rw [hll] at *
  generalize l.getD 0 c0 = x0 at *
  go_wp2_with fail
  refine (lineS_any _ _ true _ (hR.below hb3) hlen HB.out).mono ?_
  rintro e w3 ⟨rfl, rfl⟩
  go_wp2
  go_loopw [6, 7, 8] (fun s t i wr => ∃ (j a b : Nat), j ≤ 3 ∧ i = .int .i64 (j + 1 : Nat) ∧ s = .float .f32 a ∧ t = .float .f32 b ∧ Hid ((Fl.fv .f32 a, Fl.fv .f32 b) = accF D j) ∧ Below w2.heap.size w2 wr ∧ Below w.heap.size w wr) (fun _ _ i _ => 4 - (intOf i).toNat)
  case atStart => exact ⟨0, _, _, by omega, rfl, rfl, rfl, H0, Below.refl _ _, hb3⟩
  case round =>
    obtain ⟨j, a, b', hj, rfl, rfl, rfl, hs, hbw, hbw'⟩ := hrel
    by_cases hlt : j < 3
    · obtain ⟨g1, g2⟩ := HC.out j hlt
      rw [← hbw.cell (p := ⟨b, off + (j + 1) * 2, none⟩) (World.block_lt_of_cell? _ _ g1)] at g1
      rw [← hbw.cell (p := ⟨b, off + (j + 1) * 2 + 1, none⟩) (World.block_lt_of_cell? _ _ g2)] at g2
      have hst := Lib.hid (fun re im => HS.out j hlt re im hs.out)
      have hbs := hbw.size
      have hbs' := hbw'.size
      generalize l.getD (j + 1) c0 = x at *
      generalize hi : j + 1 = i at *
      have hi4 : i < 4 := by omega
      go_wp2
      all_goals
        go_roundw
        case rel => exact ⟨i, _, _, by omega, by go_num, rfl, rfl, Lib.hid (by exact hst.out _ _ (by rw [Fl.fv_fbits]) (by rw [Fl.fv_fbits])), by repeat (first | exact hbw | refine below_drewN ?_ _ | refine Below.drew ?_ | refine Below.alloc ?_ (by omega) _), by repeat (first | exact hbw' | refine below_drewN ?_ _ | refine Below.drew ?_ | refine Below.alloc ?_ (by omega) _)⟩
        case measure => simp [intOf]; omega
    · have hke : j = 3 := by omega
      subst hke
      go_wp2
      all_goals
        go_ret2
        exact ⟨_, _, rfl, fin4 hs.out (by rw [Fl.fv_fbits]) (by rw [Fl.fv_fbits]), by repeat (first | exact hbw' | refine below_drewN ?_ _ | refine Below.drew ?_)⟩
theorem bcS_any (v : Value) (xs : List Nat) (q : Bool) (w : World) (hR : Rf w v xs) (hlen : xs.length ≤ 1048576) (hq : bcOk xs = q) :
    Calls Try.prog 68 #[v] w (BcPost w q (decl (lBurst xs) false 4)) := by
  unfold bcOk at hq
  cases hb : lineB xs
  · rw [hb, Bool.false_and] at hq
    subst hq
    exact bcS_no v xs [] false _ w hR hlen hb (by simp) decOk_nil (burstS_no v xs w hR hlen hb)
  · rw [hb, Bool.true_and] at hq
    cases q
    · exact bcS_no v xs _ true _ w hR hlen hb (lBurst_le hlen) hq (burstS_yes v xs w hR hlen hb)
    · exact bcS_true v xs w hR hlen hb hq
end Go.Proofs.Ytbjllfnjecggfaa
