/- Walks: rows of cells that are equal: slices.Equal, SameRows' closure, slices.EqualFunc, SameRows, equalRow. -/
import Derived.Test.YtbjllfnjecggfaaGb
import Derived.Laws.StructEq
namespace Go.Proofs.Ytbjllfnjecggfaa
open Go.RowKit

section
variable {P : Program} (w : World)
@[go_sem] theorem run_equalIn_float (d : Nat) (t : TypeId) (k k' : FloatKind) (a b : Nat) (h : P.underlying t = some (.float k')) : (Op.equalIn (d + 1) t (.float k a) (.float k b)).run P w = .ok (k.format.order a b == some .eq) w := by
  simp [Op.equalIn, run_underlying h, Op.floatEq]
@[go_sem] theorem run_equalIn_complex (d : Nat) (t : TypeId) (k k' : FloatKind) (a b a' b' : Nat) (h : P.underlying t = some (.complex k')) : (Op.equalIn (d + 1) t (.complex k a b) (.complex k a' b')).run P w = .ok (k.format.order a a' == some .eq && k.format.order b b' == some .eq) w := by
  simp [Op.equalIn, run_underlying h, Op.floatEq]
end
def oeq (x y : Nat) : Prop := (FloatKind.f32.format.order x y == some .eq) = true
def ceq (c d : CV) : Prop := oeq c.1 d.1 ∧ oeq c.2.1 d.2.1 ∧ oeq c.2.2 d.2.2
def Eqc (xs ys : List CV) : Prop := xs.length = ys.length ∧ ∀ j, j < xs.length → ceq (xs.getD j c0) (ys.getD j c0)
set_option maxRecDepth 100000 in
set_option maxHeartbeats 1000000 in
theorem equalC_any (u v : Value) (xs ys : List CV) (w : World) (hU : Rc w u xs) (hV : Rc w v ys) (hs : Eqc xs ys) (hlen : xs.length ≤ 1048576) :
    Calls Try.prog 135 #[u, v] w fun e w' => e = .returned (.bool true) ∧ Below w.heap.size w w' := by
  obtain ⟨hl, hs⟩ := hs
  by_cases h0 : xs.length = 0
  · obtain ⟨a, c, rfl⟩ := hU.form
    obtain ⟨a', c', rfl⟩ := hV.form
    have h0' : ys.length = 0 := by omega
    rw [h0, h0']
    clear hs hl h0 h0' hU hV
    go_enter Try.func135, Try.ntmps135
    go_wp2
    refine wp_loop_rounds 1 ?_
    rw [rounds_succ]
    go_wp2
    go_ret
    exact ⟨rfl, Below.refl _ _⟩
  · rcases hU with ⟨o, c, rfl, e⟩ | ⟨b, off, cap, rfl, h1, h2, hc⟩
    · subst e; simp at h0
    rcases hV with ⟨o', c', rfl, e⟩ | ⟨b', off', cap', rfl, h1', h2', hc'⟩
    · subst e; simp at hl; subst hl; simp at h0
    rw [← hl] at h1' hc' ⊢
    have HC := Lib.hid hc
    have HC' := Lib.hid hc'
    have HS := Lib.hid hs
    clear hc hc' hl h0 hs
    go_enter Try.func135, Try.ntmps135
    go_wp2
    go_loopw [13, 5] (fun i _ wr => ∃ j : Nat, j ≤ xs.length ∧ i = .int .i64 j ∧ Below w.heap.size w wr) (fun i _ _ => xs.length - (intOf i).toNat)
    case atStart => exact ⟨0, Nat.zero_le _, rfl, Below.refl _ _⟩
    case round =>
      obtain ⟨j, hj, rfl, hbw⟩ := hrel
      by_cases hlt : j < xs.length
      · obtain ⟨g1, g2⟩ := HC.out j hlt
        obtain ⟨g1', g2'⟩ := HC'.out j hlt
        rw [← hbw.cell (p := ⟨b, off + j * 2, none⟩) (World.block_lt_of_cell? _ _ g1)] at g1
        rw [← hbw.cell (p := ⟨b, off + j * 2 + 1, none⟩) (World.block_lt_of_cell? _ _ g2)] at g2
        rw [← hbw.cell (p := ⟨b', off' + j * 2, none⟩) (World.block_lt_of_cell? _ _ g1')] at g1'
        rw [← hbw.cell (p := ⟨b', off' + j * 2 + 1, none⟩) (World.block_lt_of_cell? _ _ g2')] at g2'
        have hsm := HS.out j hlt
        generalize xs.getD j c0 = x at *
        generalize ys.getD j c0 = y at *
        obtain ⟨x1, x2, x3⟩ := x
        obtain ⟨y1, y2, y3⟩ := y
        dsimp only at g1 g2 g1' g2'
        obtain ⟨q1, q2, q3⟩ := hsm
        unfold oeq at q1 q2 q3
        dsimp only at q1 q2 q3
        go_wp2
        go_region
        go_wp2
        go_roundw
        case rel => exact ⟨j + 1, by omega, by go_num, by repeat (first | exact hbw | refine Below.drew ?_ | refine below_drewN ?_ _)⟩
        case measure => simp [intOf]; omega
      · have hke : j = xs.length := by omega
        subst hke
        go_wp2
        go_ret
        exact ⟨rfl, hbw⟩
set_option maxHeartbeats 400000 in
theorem same1_any (u v : Value) (xs ys : List CV) (w : World) (hU : Rc w u xs) (hV : Rc w v ys) (hs : Eqc xs ys) (hlen : xs.length ≤ 1048576) :
    Calls Try.prog 134 #[u, v] w fun e w' => e = .returned (.bool true) ∧ Below w.heap.size w w' := by
  have HU := Lib.hid hU
  have HV := Lib.hid hV
  have HS := Lib.hid hs
  clear hU hV hs
  go_enter Try.func134, Try.ntmps134
  go_wp2_with (go_at_call 135; refine (equalC_any u v xs ys _ HU.out HV.out HS.out hlen).mono ?_; rintro e w1 ⟨rfl, hb⟩)
  go_ret
  exact ⟨rfl, hb⟩
set_option maxRecDepth 100000 in
set_option maxHeartbeats 1000000 in
theorem equalF_one (u v : Value) (xs ys : List CV) (b b' : Nat) (w : World) (h1 : w.cell? ⟨b, 0, none⟩ = some u) (h2 : w.cell? ⟨b', 0, none⟩ = some v) (hU : Rc w u xs) (hV : Rc w v ys) (hs : Eqc xs ys) (hlen : xs.length ≤ 1048576) :
    Calls Try.prog 133 #[.slice (some ⟨b, 0, none⟩) 1 1, .slice (some ⟨b', 0, none⟩) 1 1, .func (.func 134) #[] #[]] w fun e w' => e = .returned (.bool true) ∧ Below w.heap.size w w' := by
  obtain ⟨a, c, rfl⟩ := hU.form
  obtain ⟨a', c', rfl⟩ := hV.form
  have HU := Lib.hid hU
  have HV := Lib.hid hV
  have HS := Lib.hid hs
  clear hU hV hs
  go_enter Try.func133, Try.ntmps133
  go_wp2
  refine wp_loop_rounds 2 ?_
  rw [rounds_succ]
  go_wp2_with (go_at_call 134; refine (same1_any _ _ xs ys _ HU.out HV.out HS.out hlen).mono ?_; rintro e w1 ⟨rfl, hb⟩)
  rw [rounds_succ]
  go_wp2
  go_ret
  exact ⟨rfl, hb⟩
set_option maxHeartbeats 400000 in
theorem sameRows_one (u v : Value) (xs ys : List CV) (b b' : Nat) (w : World) (h1 : w.cell? ⟨b, 0, none⟩ = some u) (h2 : w.cell? ⟨b', 0, none⟩ = some v) (hU : Rc w u xs) (hV : Rc w v ys) (hs : Eqc xs ys) (hlen : xs.length ≤ 1048576) :
    Calls Try.prog 100 #[.slice (some ⟨b, 0, none⟩) 1 1, .slice (some ⟨b', 0, none⟩) 1 1] w fun e w' => e = .returned (.bool true) ∧ Below w.heap.size w w' := by
  have HK := Lib.hid (equalF_one u v xs ys b b' w h1 h2 hU hV hs hlen)
  clear hU hV hs h1 h2
  go_enter Try.func100, Try.ntmps100
  go_wp2_with (go_at_call 133; refine HK.out.mono ?_; rintro e w1 ⟨rfl, hb⟩)
  go_ret
  exact ⟨rfl, hb⟩
set_option maxHeartbeats 400000 in
theorem equalRow_any (u v : Value) (xs ys : List CV) (w : World) (hU : Rc w u xs) (hV : Rc w v ys) (hs : Eqc xs ys) (hlen : xs.length ≤ 1048576) :
    Calls Try.prog 50 #[u, v] w fun e w' => e = .returned (.bool true) ∧ Below w.heap.size w w' := by
  obtain ⟨a, c, rfl⟩ := hU.form
  obtain ⟨a', c', rfl⟩ := hV.form
  have HU := Lib.hid hU
  have HV := Lib.hid hV
  have HS := Lib.hid hs
  clear hU hV hs
  go_enter Try.func50, Try.ntmps50
  go_wp2_with fail
  have hb0 : Below w.heap.size w ((w.alloc (.cells #[.slice a xs.length c] 40)).alloc (.cells #[.slice a' ys.length c'] 40)) := ((Below.refl _ _).alloc (Nat.le_refl _) _).alloc (by simp) _
  refine (sameRows_one (.slice a xs.length c) (.slice a' ys.length c') xs ys _ _ _ (by simp [World.cell?_alloc_lt]) (by simp) (HU.out.below hb0) (HV.out.below hb0) HS.out hlen).mono ?_
  rintro e w1 ⟨rfl, hb⟩
  go_wp2
  go_ret
  exact ⟨rfl, hb0.trans (hb.mono hb0.size)⟩
end Go.Proofs.Ytbjllfnjecggfaa
