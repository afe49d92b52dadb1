/- Walks: HueGain. -/
import Derived.Test.YtbjllfnjecggfaaBb
namespace Go.Proofs.Ytbjllfnjecggfaa
open Go.RowKit

def bcF (xs : List Nat) : Option Nat × Option Nat := if bcOk xs then (Fl.fop .quo .f32 (accF (decl (lBurst xs) false 4) 3).1 (Fl.fv .f32 1082130432), Fl.fop .quo .f32 (accF (decl (lBurst xs) false 4) 3).2 (Fl.fv .f32 1082130432)) else (Fl.fv .f32 0, Fl.fv .f32 0)
def BuPost (w : World) (q : Bool) (F : Option Nat × Option Nat) (e : Ending) (w' : World) : Prop :=
  ∃ re im, e = .returned (.tuple #[.complex .f32 re im, .bool q]) ∧ (Fl.fv .f32 re, Fl.fv .f32 im) = F ∧ Below w.heap.size w w'
theorem buI_any (v : Value) (xs : List Nat) (q : Bool) (w : World) (hR : Rf w v xs) (hlen : xs.length ≤ 1048576) (hq : bcOk xs = q) : Calls Try.prog 69 #[v] w (BuPost w q (bcF xs)) := by
  unfold bcF; rw [hq]; exact bcI_any v xs q w hR hlen hq
theorem buS_any (v : Value) (xs : List Nat) (q : Bool) (w : World) (hR : Rf w v xs) (hlen : xs.length ≤ 1048576) (hq : bcOk xs = q) : Calls Try.prog 68 #[v] w (BuPost w q (bcF xs)) := by
  unfold bcF; rw [hq]; exact bcS_any v xs q w hR hlen hq
/-- what HueGain answers -/
def hgF (q : Bool) (F G : Option Nat × Option Nat) : Option Nat × Option Nat := if q then (Fl.fop .quo .f32 (Fl.fop .add .f32 F.1 G.1) (Fl.fv .f32 3254779904), Fl.fop .quo .f32 (Fl.fop .add .f32 F.2 G.2) (Fl.fv .f32 3254779904)) else (Fl.fv .f32 0, Fl.fv .f32 0)
theorem hg_fin {F G : Option Nat × Option Nat} {a b c d x y s t : Nat} (hF : (Fl.fv .f32 a, Fl.fv .f32 b) = F) (hG : (Fl.fv .f32 c, Fl.fv .f32 d) = G) (hx : Fl.fv .f32 x = Fl.fop .quo .f32 (Fl.fv .f32 s) (Fl.fv .f32 3254779904)) (hy : Fl.fv .f32 y = Fl.fop .quo .f32 (Fl.fv .f32 t) (Fl.fv .f32 3254779904))
    (hs : Fl.fv .f32 s = Fl.fop .add .f32 (Fl.fv .f32 a) (Fl.fv .f32 c)) (ht : Fl.fv .f32 t = Fl.fop .add .f32 (Fl.fv .f32 b) (Fl.fv .f32 d)) : (Fl.fv .f32 x, Fl.fv .f32 y) = hgF true F G := by
  subst hF hG; unfold hgF; rw [hx, hy, hs, ht]; rfl
def B2Post (w : World) (q : Bool) (F G : Option Nat × Option Nat) (e : Ending) (w' : World) : Prop :=
  ∃ a b c d, e = .returned (.tuple #[.complex .f32 a b, .complex .f32 c d, .bool q]) ∧ (Fl.fv .f32 a, Fl.fv .f32 b) = F ∧ (Fl.fv .f32 c, Fl.fv .f32 d) = G ∧ Below w.heap.size w w'

set_option maxRecDepth 100000 in
set_option maxHeartbeats 1000000 in
theorem b2I_any (u v : Value) (xs ys : List Nat) (q r : Bool) (w : World) (hU : Rf w u xs) (hV : Rf w v ys) (hx : xs.length ≤ 1048576) (hy : ys.length ≤ 1048576) (hq : bcOk xs = q) (hr : bcOk ys = r) :
    Calls Try.prog 120 #[u, v] w (B2Post w (q && r) (bcF xs) (bcF ys)) := by
  have HQ := Lib.hid hq
  have HR := Lib.hid hr
  clear hq hr
  have hk := fun w' (h : Below w.heap.size w w') => buI_any v ys r w' (hV.below h) hy HR.out
  generalize bcF ys = G at *
  have hk1 := buI_any u xs q w hU hx HQ.out
  generalize bcF xs = F at *
  cases q <;> cases r
  all_goals
    go_enter Try.func120, Try.ntmps120
    go_wp2_with fail
    refine hk1.mono ?_
    rintro e w1 ⟨a, b, rfl, hF, hb1⟩
    have HF := Lib.hid hF
    clear hF
    go_wp2_with fail
    refine (hk _ hb1).mono ?_
    rintro e w2 ⟨c, d, rfl, hG, hb2⟩
    have HG := Lib.hid hG
    clear hG
    go_wp2
    go_ret3
    exact ⟨_, _, _, _, rfl, HF.out, HG.out, hb1.trans (hb2.mono hb1.size)⟩

set_option maxRecDepth 100000 in
set_option maxHeartbeats 1000000 in
theorem hgI_any (u v : Value) (xs ys : List Nat) (q r : Bool) (w : World) (hU : Rf w u xs) (hV : Rf w v ys) (hx : xs.length ≤ 1048576) (hy : ys.length ≤ 1048576) (hq : bcOk xs = q) (hr : bcOk ys = r) :
    Calls Try.prog 77 #[u, v] w (BuPost w (q && r) (hgF (q && r) (bcF xs) (bcF ys))) := by
  have hk := b2I_any u v xs ys q r w hU hV hx hy hq hr
  clear hq hr
  generalize bcF ys = G at *
  generalize bcF xs = F at *
  cases h : (q && r)
  · rw [h] at hk
    go_enter Try.func77, Try.ntmps77
    go_wp2_with fail
    refine hk.mono ?_
    rintro e w1 ⟨a, b, c, d, rfl, hF, hG, hb1⟩
    have HF := Lib.hid hF
    have HG := Lib.hid hG
    clear hF hG
    go_wp2
    go_ret2
    exact ⟨_, _, rfl, rfl, hb1⟩
  · rw [h] at hk
    go_enter Try.func77, Try.ntmps77
    go_wp2_with fail
    refine hk.mono ?_
    rintro e w1 ⟨a, b, c, d, rfl, hF, hG, hb1⟩
    have HF := Lib.hid hF
    have HG := Lib.hid hG
    clear hF hG
    go_wp2
    all_goals
      go_ret2
      exact ⟨_, _, rfl, hg_fin HF.out HG.out (Fl.fv_fbits _ _ _ _ _) (Fl.fv_fbits _ _ _ _ _) (Fl.fv_fbits _ _ _ _ _) (Fl.fv_fbits _ _ _ _ _), by repeat (first | exact hb1 | refine below_drewN ?_ _ | refine Below.drew ?_)⟩

set_option maxRecDepth 100000 in
set_option maxHeartbeats 1000000 in
theorem hgS_any (u v : Value) (xs ys : List Nat) (q r : Bool) (w : World) (hU : Rf w u xs) (hV : Rf w v ys) (hx : xs.length ≤ 1048576) (hy : ys.length ≤ 1048576) (hq : bcOk xs = q) (hr : bcOk ys = r) :
    Calls Try.prog 76 #[u, v] w (BuPost w (q && r) (hgF (q && r) (bcF xs) (bcF ys))) := by
  have HQ := Lib.hid hq
  have HR := Lib.hid hr
  clear hq hr
  have hk := fun w' (h : Below w.heap.size w w') => buS_any v ys r w' (hV.below h) hy HR.out
  generalize bcF ys = G at *
  have hk1 := buS_any u xs q w hU hx HQ.out
  generalize bcF xs = F at *
  cases q <;> cases r
  all_goals
    go_enter Try.func76, Try.ntmps76
    go_wp2_with fail
    refine hk1.mono ?_
    rintro e w1 ⟨a, b, rfl, hF, hb1⟩
    have HF := Lib.hid hF
    clear hF
    go_wp2_with fail
    refine (hk _ hb1).mono ?_
    rintro e w2 ⟨c, d, rfl, hG, hb2⟩
    have HG := Lib.hid hG
    clear hG
    go_wp2
    all_goals
      go_ret2
      first
      | exact ⟨_, _, rfl, rfl, hb1.trans (hb2.mono hb1.size)⟩
      | exact ⟨_, _, rfl, hg_fin HF.out HG.out (Fl.fv_fbits _ _ _ _ _) (Fl.fv_fbits _ _ _ _ _) (Fl.fv_fbits _ _ _ _ _) (Fl.fv_fbits _ _ _ _ _), by repeat (first | exact hb1.trans (hb2.mono hb1.size) | refine below_drewN ?_ _ | refine Below.drew ?_)⟩
end Go.Proofs.Ytbjllfnjecggfaa
