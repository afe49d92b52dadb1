/- Walks: same64, same32, sameColour, sameRow answer true of what is the same, NaN's bits aside. -/
import Derived.Test.YtbjllfnjecggfaaGa
import Derived.Test.YtbjllfnjecggfaaCf
import Derived.Lib.QuietBelow
namespace Go.Proofs.Ytbjllfnjecggfaa
open Go.RowKit

set_option maxHeartbeats 400000 in
theorem same64_any (a b : Nat) (w : World) (h : Fl.fv .f64 a = Fl.fv .f64 b) :
    Calls Try.prog 138 #[.float .f64 a, .float .f64 b] w fun e w' => e = .returned (.bool true) ∧ Below w.heap.size w w' := by
  cases ha : Fl.fv .f64 a with
  | none =>
    have h1 : (FloatKind.f64.format.order a a != some .eq) = true := by rw [bne, Fl.order_self_nan (k := .f64), ha]; rfl
    have h2 : (FloatKind.f64.format.order b b != some .eq) = true := by rw [bne, Fl.order_self_nan (k := .f64), ← h, ha]; rfl
    clear h ha
    go_enter Try.func138, Try.ntmps138
    go_wp2
    go_ret
    exact ⟨rfl, Below.refl _ _⟩
  | some c =>
    have e1 := (Fl.fv_some.1 ha).2
    have e2 := (Fl.fv_some.1 (h.symm.trans ha)).2
    subst e1
    subst e2
    have h1 : (FloatKind.f64.format.order b b != some .eq) = false := by rw [bne, Fl.order_self_nan (k := .f64), ha]; rfl
    have h3 : (FloatKind.f64.format.order b b == some .eq) = true := by rw [Fl.order_self_nan (k := .f64), ha]; rfl
    have hnn : Fl.fv .f64 b ≠ none := by rw [ha]; simp
    have HN := Lib.hid hnn
    clear h ha hnn
    by_cases h0 : (FloatKind.f64.format.order b 0 == some .eq) = true
    · have h0' : (FloatKind.f64.format.order b 0 != some .eq) = false := by rw [bne, h0]; rfl
      go_enter Try.func138, Try.ntmps138
      go_wp2
      go_ret
      exact ⟨by rw [Fl.over_same _ _ HN.out]; rfl, by repeat (first | exact Below.refl _ _ | refine below_drewN ?_ _)⟩
    · have h0' : (FloatKind.f64.format.order b 0 != some .eq) = true := by rw [bne]; simpa using h0
      clear h0
      go_enter Try.func138, Try.ntmps138
      go_wp2
      go_ret
      exact ⟨rfl, Below.refl _ _⟩
set_option maxHeartbeats 400000 in
theorem same32_any (a b : Nat) (w : World) (h : Fl.widen (Fl.fv .f32 a) = Fl.widen (Fl.fv .f32 b)) :
    Calls Try.prog 108 #[.float .f32 a, .float .f32 b] w fun e w' => e = .returned (.bool true) ∧ Below w.heap.size w w' := by
  have H := Lib.hid h
  clear h
  go_enter Try.func108, Try.ntmps108
  go_wp2_with (go_at_call 138; refine (same64_any _ _ _ (by rw [Fl.fv_widen, Fl.fv_widen]; exact H.out)).mono ?_; rintro e w' ⟨rfl, hb⟩)
  go_ret
  exact ⟨rfl, Below.trans (by repeat (first | exact Below.refl _ _ | refine below_drewN ?_ _)) hb⟩
set_option maxHeartbeats 400000 in
theorem sameCol_any (a b c d : Nat) (w : World) (h1 : Fl.widen (Fl.fv .f32 a) = Fl.widen (Fl.fv .f32 c)) (h2 : Fl.widen (Fl.fv .f32 b) = Fl.widen (Fl.fv .f32 d)) :
    Calls Try.prog 109 #[.complex .f32 a b, .complex .f32 c d] w fun e w' => e = .returned (.bool true) ∧ Below w.heap.size w w' := by
  have H1 := Lib.hid h1
  have H2 := Lib.hid h2
  clear h1 h2
  go_enter Try.func109, Try.ntmps109
  go_wp2_with fail
  refine (same32_any _ _ _ H1.out).mono ?_
  rintro e w1 ⟨rfl, hb1⟩
  go_wp2_with fail
  refine (same32_any _ _ _ H2.out).mono ?_
  rintro e w2 ⟨rfl, hb2⟩
  go_wp2
  go_ret
  exact ⟨rfl, hb1.trans (hb2.mono hb1.size)⟩
/-- what a cell is, as doubles -/
def wdc (c : CV) : FV := (Fl.widen (Fl.fv .f32 c.1), Fl.widen (Fl.fv .f32 c.2.1), Fl.widen (Fl.fv .f32 c.2.2))
def Swc (a b : List CV) : Prop := a.map wdc = b.map wdc
theorem Swc.len {a b : List CV} (h : Swc a b) : a.length = b.length := by have := congrArg List.length h; simpa using this
theorem Swc.at {a b : List CV} (h : Swc a b) (j : Nat) (hj : j < a.length) : wdc (a.getD j c0) = wdc (b.getD j c0) := by
  have hl := h.len
  have h2 := congrArg (fun l => l[j]?) h
  simp [hj, hl ▸ hj] at h2
  simp [List.getD, hj, hl ▸ hj, h2]
set_option maxRecDepth 100000 in
set_option maxHeartbeats 1000000 in
theorem sameRow_any (u v : Value) (xs ys : List CV) (w : World) (hU : Rc w u xs) (hV : Rc w v ys) (hs : Swc xs ys) (hlen : xs.length ≤ 1048576) :
    Calls Try.prog 62 #[u, v] w fun e w' => e = .returned (.bool true) ∧ Below w.heap.size w w' := by
  have hl := hs.len
  by_cases h0 : xs.length = 0
  · obtain ⟨a, c, rfl⟩ := hU.form
    obtain ⟨a', c', rfl⟩ := hV.form
    have h0' : ys.length = 0 := by omega
    rw [h0, h0']
    clear hs hl h0 h0' hU hV
    go_enter Try.func62, Try.ntmps62
    go_wp2
    refine wp_loop_rounds 1 ?_
    rw [rounds_succ]
    go_wp2
    go_ret
    exact ⟨rfl, Below.refl _ _⟩
  · rcases hU with ⟨o, c, rfl, e⟩ | ⟨b, off, cap, rfl, h1, h2, hc⟩
    · subst e; simp at h0
    rcases hV with ⟨o', c', rfl, e⟩ | ⟨b', off', cap', rfl, h1', h2', hc'⟩
    · subst e; simp at hl; subst hl; simp at h0
    rw [← hl] at h1' hc' ⊢
    have HC := Lib.hid hc
    have HC' := Lib.hid hc'
    clear hc hc' hl h0
    go_enter Try.func62, Try.ntmps62
    go_wp2
    go_loopw [5] (fun i wr => ∃ j : Nat, j ≤ xs.length ∧ i = .int .i64 j ∧ Below w.heap.size w wr) (fun i _ => xs.length - (intOf i).toNat)
    case atStart => exact ⟨0, Nat.zero_le _, rfl, Below.refl _ _⟩
    case round =>
      obtain ⟨j, hj, rfl, hbw⟩ := hrel
      by_cases hlt : j < xs.length
      · obtain ⟨g1, g2⟩ := HC.out j hlt
        obtain ⟨g1', g2'⟩ := HC'.out j hlt
        rw [← hbw.cell (p := ⟨b, off + j * 2, none⟩) (World.block_lt_of_cell? _ _ g1)] at g1
        rw [← hbw.cell (p := ⟨b, off + j * 2 + 1, none⟩) (World.block_lt_of_cell? _ _ g2)] at g2
        rw [← hbw.cell (p := ⟨b', off' + j * 2, none⟩) (World.block_lt_of_cell? _ _ g1')] at g1'
        rw [← hbw.cell (p := ⟨b', off' + j * 2 + 1, none⟩) (World.block_lt_of_cell? _ _ g2')] at g2'
        have hsm := hs.at j hlt
        generalize xs.getD j c0 = x at *
        generalize ys.getD j c0 = y at *
        obtain ⟨x1, x2, x3⟩ := x
        obtain ⟨y1, y2, y3⟩ := y
        dsimp only at g1 g2 g1' g2'
        have q1 := Lib.hid (congrArg Prod.fst hsm)
        have q2 := Lib.hid (congrArg (fun p => p.2.1) hsm)
        have q3 := Lib.hid (congrArg (fun p => p.2.2) hsm)
        clear hsm
        have r1 := cell_regrown g1
        have r2 := cell_regrown g2
        have r3 := cell_regrown g1'
        have r4 := cell_regrown g2'
        have HF : ∀ d os, Calls Try.prog 108 #[.float .f32 x1, .float .f32 y1] (Sort.grow (redrawn wr d) os) fun e w'' => e = .returned (.bool true) ∧ ∃ p : Regrown, w'' = Sort.grow (redrawn wr p.d) p.os := fun d os => Calls.regrown_of (same32_any x1 y1 _ q1.out)
        have HG : ∀ d os, Calls Try.prog 109 #[.complex .f32 x2 x3, .complex .f32 y2 y3] (Sort.grow (redrawn wr d) os) fun e w'' => e = .returned (.bool true) ∧ ∃ p : Regrown, w'' = Sort.grow (redrawn wr p.d) p.os := fun d os => Calls.regrown_of (sameCol_any x2 x3 y2 y3 _ q2.out q3.out)
        go_wp2_with fail
        refine wp_region_quiet_below (by kernel_rfl) (by kernel_rfl) ?_
        repeat (quiet_step (first | exact HF _ _ | exact HG _ _))
        refine wpQuiet_nil ?_
        intro _ hw2
        obtain ⟨⟨dq, osq⟩, hw3⟩ := hw2
        subst hw3
        have hb1 := Lib.hid (below_regrown wr dq osq)
        clear HF HG r1 r2 r3 r4
        go_wp2
        go_roundw
        case rel => exact ⟨j + 1, by omega, by go_num, hbw.trans (hb1.out.mono hbw.size)⟩
        case measure => simp [intOf]; omega
      · have hke : j = xs.length := by omega
        subst hke
        go_wp2
        go_ret
        exact ⟨rfl, hbw⟩
end Go.Proofs.Ytbjllfnjecggfaa
