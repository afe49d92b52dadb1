/- Walks: Swing. -/
import Derived.Test.YtbjllfnjecggfaaHa
namespace Go.Proofs.Ytbjllfnjecggfaa
open Go.RowKit

def swO : Option Ordering → Int
  | some .lt => 1
  | some .gt => -1
  | _ => 0
def swX (F G : Option Nat × Option Nat) : Option Nat := Fl.fop .sub .f32 (Fl.fop .mul .f32 (Fl.fop .sub .f32 F.2 G.2) (Fl.fop .add .f32 F.1 G.1)) (Fl.fop .mul .f32 (Fl.fop .sub .f32 F.1 G.1) (Fl.fop .add .f32 F.2 G.2))
def swF (q : Bool) (F G : Option Nat × Option Nat) : Int := if q then swO (Fl.ford .f32 (swX F G) (Fl.fv .f32 0)) else 0
def SwPost (w : World) (n : Int) (e : Ending) (w' : World) : Prop := e = .returned (.int .i64 n) ∧ Below w.heap.size w w'
theorem sw_all {F G : Option Nat × Option Nat} {a b c d dr di sr si m1 m2 x : Nat} {n : Int} (ho : swO (FloatKind.f32.format.order x 0) = n) (hF : (Fl.fv .f32 a, Fl.fv .f32 b) = F) (hG : (Fl.fv .f32 c, Fl.fv .f32 d) = G) (hx : Fl.fv .f32 x = Fl.fop .sub .f32 (Fl.fv .f32 m1) (Fl.fv .f32 m2))
    (h1 : Fl.fv .f32 m1 = Fl.fop .mul .f32 (Fl.fv .f32 di) (Fl.fv .f32 sr)) (h2 : Fl.fv .f32 m2 = Fl.fop .mul .f32 (Fl.fv .f32 dr) (Fl.fv .f32 si))
    (k1 : Fl.fv .f32 dr = Fl.fop .sub .f32 (Fl.fv .f32 a) (Fl.fv .f32 c)) (k2 : Fl.fv .f32 di = Fl.fop .sub .f32 (Fl.fv .f32 b) (Fl.fv .f32 d)) (k3 : Fl.fv .f32 sr = Fl.fop .add .f32 (Fl.fv .f32 a) (Fl.fv .f32 c)) (k4 : Fl.fv .f32 si = Fl.fop .add .f32 (Fl.fv .f32 b) (Fl.fv .f32 d)) :
    Ending.returned (.int .i64 n) = .returned (.int .i64 (swF true F G)) := by
  subst hF hG
  unfold swF swX
  rw [← ho, Fl.order_fv, hx, h1, h2, k1, k2, k3, k4]
  rfl
theorem so_lt {x : Nat} (h : (FloatKind.f32.format.order x 0 == some .lt) = true) : swO (FloatKind.f32.format.order x 0) = 1 := by rw [beq_iff_eq.1 h]; rfl
theorem so_gt {x : Nat} (h : (FloatKind.f32.format.order x 0 == some .gt) = true) : swO (FloatKind.f32.format.order x 0) = -1 := by rw [beq_iff_eq.1 h]; rfl
theorem so_no {x : Nat} (h : (FloatKind.f32.format.order x 0 == some .lt) = false) (h' : (FloatKind.f32.format.order x 0 == some .gt) = false) : swO (FloatKind.f32.format.order x 0) = 0 := by
  unfold swO; split
  · next e => rw [e] at h; cases h
  · next e => rw [e] at h'; cases h'
  · rfl

set_option maxRecDepth 100000 in
theorem minus_any (a b c d : Nat) (w : World) : Calls Try.prog 122 #[.complex .f32 a b, .complex .f32 c d] w fun e w' => ∃ re im, e = .returned (.complex .f32 re im) ∧ Fl.fv .f32 re = Fl.fop .sub .f32 (Fl.fv .f32 a) (Fl.fv .f32 c) ∧ Fl.fv .f32 im = Fl.fop .sub .f32 (Fl.fv .f32 b) (Fl.fv .f32 d) ∧ Below w.heap.size w w' := by
  go_enter Try.func122, Try.ntmps122
  go_wp2
  all_goals
    go_ret
    exact ⟨_, _, rfl, by rw [Fl.fv_fbits], by rw [Fl.fv_fbits], by repeat (first | exact Below.refl _ _ | refine below_drewN ?_ _ | refine Below.drew ?_)⟩

set_option maxRecDepth 100000 in
set_option maxHeartbeats 1000000 in
theorem swI_any (u v : Value) (xs ys : List Nat) (q r : Bool) (w : World) (hU : Rf w u xs) (hV : Rf w v ys) (hx : xs.length ≤ 1048576) (hy : ys.length ≤ 1048576) (hq : bcOk xs = q) (hr : bcOk ys = r) :
    Calls Try.prog 81 #[u, v] w (SwPost w (swF (q && r) (bcF xs) (bcF ys))) := by
  have hk := b2I_any u v xs ys q r w hU hV hx hy hq hr
  clear hq hr
  generalize bcF ys = G at *
  generalize bcF xs = F at *
  cases h : (q && r)
  · rw [h] at hk
    go_enter Try.func81, Try.ntmps81
    go_wp2_with fail
    refine hk.mono ?_
    rintro e w1 ⟨a, b, c, d, rfl, hF, hG, hb1⟩
    clear hF hG
    go_wp2
    go_ret
    exact ⟨rfl, hb1⟩
  · rw [h] at hk
    go_enter Try.func81, Try.ntmps81
    go_wp2_with fail
    refine hk.mono ?_
    rintro e w1 ⟨a, b, c, d, rfl, hF, hG, hb1⟩
    have HF := Lib.hid hF
    have HG := Lib.hid hG
    clear hF hG
    go_wp2_with (first | (go_at_call 122; refine (minus_any _ _ _ _ _).mono ?_; rintro e w2 ⟨dr, di, rfl, k1, k2, hb2⟩; have K1 := Lib.hid k1; have K2 := Lib.hid k2; clear k1 k2) | (go_at_call 117; refine (plus_any _ _ _ _ _).mono ?_; rintro e w3 ⟨sr, si, rfl, k1, k2, hb3⟩; have K3 := Lib.hid k1; have K4 := Lib.hid k2; clear k1 k2))
    all_goals
      have hbb := hb1.trans ((hb2.mono hb1.size).trans (hb3.mono (Nat.le_trans hb1.size hb2.size)))
      go_ret
      refine ⟨?_, by repeat (first | exact hbb | refine below_drewN ?_ _ | refine Below.drew ?_)⟩
      first
      | (rename_i h1; exact sw_all (so_lt h1) HF.out HG.out (Fl.fv_fbits _ _ _ _ _) (Fl.fv_fbits _ _ _ _ _) (Fl.fv_fbits _ _ _ _ _) K1.out K2.out K3.out K4.out)
      | (rename_i h1; exact sw_all (so_gt h1) HF.out HG.out (Fl.fv_fbits _ _ _ _ _) (Fl.fv_fbits _ _ _ _ _) (Fl.fv_fbits _ _ _ _ _) K1.out K2.out K3.out K4.out)
      | (rename_i h1 h2; exact sw_all (so_no h1 h2) HF.out HG.out (Fl.fv_fbits _ _ _ _ _) (Fl.fv_fbits _ _ _ _ _) (Fl.fv_fbits _ _ _ _ _) K1.out K2.out K3.out K4.out)

set_option maxRecDepth 100000 in
set_option maxHeartbeats 1000000 in
theorem swS_any (u v : Value) (xs ys : List Nat) (q r : Bool) (w : World) (hU : Rf w u xs) (hV : Rf w v ys) (hx : xs.length ≤ 1048576) (hy : ys.length ≤ 1048576) (hq : bcOk xs = q) (hr : bcOk ys = r) :
    Calls Try.prog 80 #[u, v] w (SwPost w (swF (q && r) (bcF xs) (bcF ys))) := by
  have HQ := Lib.hid hq
  have HR := Lib.hid hr
  clear hq hr
  have hk := fun w' (h : Below w.heap.size w w') => buS_any v ys r w' (hV.below h) hy HR.out
  generalize bcF ys = G at *
  have hk1 := buS_any u xs q w hU hx HQ.out
  generalize bcF xs = F at *
  cases q <;> cases r
  all_goals
    go_enter Try.func80, Try.ntmps80
    go_wp2_with fail
    refine hk1.mono ?_
    rintro e w1 ⟨a, b, rfl, hF, hb1⟩
    have HF := Lib.hid hF
    clear hF
    go_wp2_with fail
    refine (hk _ hb1).mono ?_
    rintro e w2 ⟨c, d, rfl, hG, hb2⟩
    have HG := Lib.hid hG
    clear hG
    go_wp2
    all_goals
      have hbb := hb1.trans (hb2.mono hb1.size)
      go_ret
      refine ⟨?_, by repeat (first | exact hbb | refine below_drewN ?_ _ | refine Below.drew ?_)⟩
      first
      | rfl
      | (rename_i h1; exact sw_all (so_lt h1) HF.out HG.out (Fl.fv_fbits _ _ _ _ _) (Fl.fv_fbits _ _ _ _ _) (Fl.fv_fbits _ _ _ _ _) (Fl.fv_fbits _ _ _ _ _) (Fl.fv_fbits _ _ _ _ _) (Fl.fv_fbits _ _ _ _ _) (Fl.fv_fbits _ _ _ _ _))
      | (rename_i h1; exact sw_all (so_gt h1) HF.out HG.out (Fl.fv_fbits _ _ _ _ _) (Fl.fv_fbits _ _ _ _ _) (Fl.fv_fbits _ _ _ _ _) (Fl.fv_fbits _ _ _ _ _) (Fl.fv_fbits _ _ _ _ _) (Fl.fv_fbits _ _ _ _ _) (Fl.fv_fbits _ _ _ _ _))
      | (rename_i h1 h2; exact sw_all (so_no h1 h2) HF.out HG.out (Fl.fv_fbits _ _ _ _ _) (Fl.fv_fbits _ _ _ _ _) (Fl.fv_fbits _ _ _ _ _) (Fl.fv_fbits _ _ _ _ _) (Fl.fv_fbits _ _ _ _ _) (Fl.fv_fbits _ _ _ _ _) (Fl.fv_fbits _ _ _ _ _))
end Go.Proofs.Ytbjllfnjecggfaa
