/- Plain laws: brightness, colouring and sum of samples in sixteenths. -/
import Derived.Test.YtbjllfnjecggfaaGp
import Derived.Test.YtbjllfnjecggfaaDc
import Derived.Test.YtbjllfnjecggfaaWd
namespace Go.Proofs.Ytbjllfnjecggfaa
open Go.RowKit

abbrev T3 := Int × Int × Int
abbrev t0 : T3 := (0, 0, 0)
/-- samples that tell of these numbers, in sixteenths -/
def SR (xs : List Nat) (T : List T3) : Prop :=
  xs.length = 4 * T.length ∧ ∀ j, j < T.length → ((T.getD j t0).1.natAbs ≤ 1024 ∧ (T.getD j t0).2.1.natAbs ≤ 512 ∧ (T.getD j t0).2.2.natAbs ≤ 512) ∧
    Fl.sv (Fl.fv .f32 (xs.getD (4 * j) 0)) = some (Fl.six ((T.getD j t0).1 + (T.getD j t0).2.1)) ∧ Fl.sv (Fl.fv .f32 (xs.getD (4 * j + 1) 0)) = some (Fl.six ((T.getD j t0).1 + -(T.getD j t0).2.2)) ∧
    Fl.sv (Fl.fv .f32 (xs.getD (4 * j + 2) 0)) = some (Fl.six ((T.getD j t0).1 + -(T.getD j t0).2.1)) ∧ Fl.sv (Fl.fv .f32 (xs.getD (4 * j + 3) 0)) = some (Fl.six ((T.getD j t0).1 + (T.getD j t0).2.2))
theorem SR.dec {xs : List Nat} {T : List T3} (h : SR xs T) {j : Nat} (hj : j < T.length) :
    Fl.sv (decAt xs false j).1 = some (Fl.six (T.getD j t0).1) ∧ Fl.sv (decAt xs false j).2.1 = some (Fl.six (T.getD j t0).2.1) ∧ Fl.sv (decAt xs false j).2.2 = some (Fl.six (T.getD j t0).2.2) := by
  obtain ⟨⟨b1, b2, b3⟩, s0, s1, s2, s3⟩ := h.2 j hj
  exact dec6 s0 s1 s2 s3 b1 (by omega) (by omega)
theorem SR.ok {xs : List Nat} {T : List T3} (h : SR xs T) (h1 : 1 ≤ T.length) (h2 : T.length ≤ 64) : decOk xs false = true := by
  have hl := h.1
  have hd : xs.length / 4 = T.length := by omega
  unfold decOk
  rw [decide_eq_true (by omega), Bool.true_and, hd]
  unfold rowOkF decl
  rw [List.length_map, List.length_range, decide_eq_true ⟨h1, h2⟩, Bool.true_and, List.all_eq_true]
  intro D hD
  obtain ⟨j, hj, rfl⟩ := List.mem_map.1 hD
  have hj := List.mem_range.1 hj
  obtain ⟨⟨b1, b2, b3⟩, _⟩ := h.2 j hj
  obtain ⟨d1, d2, d3⟩ := h.dec hj
  unfold cellOkF
  rw [inRF6 d1 (by omega), inRF6 d2 (by omega), inRF6 d3 (by omega)]
  rfl
theorem cell3 {c : CV} (h : plC c) : ∃ t : T3, (t.1.natAbs ≤ 1024 ∧ t.2.1.natAbs ≤ 512 ∧ t.2.2.natAbs ≤ 512) ∧ At6 c.1 t.1 ∧ At6 c.2.1 t.2.1 ∧ At6 c.2.2 t.2.2 := by
  obtain ⟨⟨y, b1, h1⟩, ⟨r, b2, h2⟩, ⟨i, b3, h3⟩⟩ := h
  exact ⟨(y, r, i), ⟨b1, b2, b3⟩, h1, h2, h3⟩
theorem row3 : ∀ {l : List CV}, plL l → ∃ T : List T3, T.length = l.length ∧ ∀ j, j < l.length → ((T.getD j t0).1.natAbs ≤ 1024 ∧ (T.getD j t0).2.1.natAbs ≤ 512 ∧ (T.getD j t0).2.2.natAbs ≤ 512) ∧ At6 (l.getD j c0).1 (T.getD j t0).1 ∧ At6 (l.getD j c0).2.1 (T.getD j t0).2.1 ∧ At6 (l.getD j c0).2.2 (T.getD j t0).2.2
  | [], _ => ⟨[], rfl, fun j hj => by simp at hj⟩
  | c :: l, h => by
    obtain ⟨t, ht⟩ := cell3 (h c (by simp))
    obtain ⟨T, hT, hr⟩ := row3 (l := l) (fun d hd => h d (by simp [hd]))
    refine ⟨t :: T, by simp [hT], fun j hj => ?_⟩
    cases j with
    | zero => exact ht
    | succ j => exact hr j (by simpa using hj)
theorem sr_enc {l : List CV} (h : plL l) : ∃ T : List T3, T.length = l.length ∧ SR (encL l false) T := by
  obtain ⟨T, hT, hr⟩ := row3 h
  refine ⟨T, hT, by rw [encL_len, hT], fun j hj => ?_⟩
  rw [hT] at hj
  obtain ⟨⟨b1, b2, b3⟩, a1, a2, a3⟩ := hr j hj
  have e0 := encL_at false l j hj 0 (by omega)
  rw [Nat.add_zero] at e0
  rw [e0, encL_at false l j hj 1 (by omega), encL_at false l j hj 2 (by omega), encL_at false l j hj 3 (by omega)]
  exact ⟨⟨b1, b2, b3⟩, smp6 (c := oddC false (l.getD j c0)) a1 a2 a3 b1 b2 b3⟩
theorem brF_at : ∀ (D : List FV) (j : Nat) (hj : j < D.length), ∀ i, i < 4 → (brF D)[4 * j + i]? = some (D[j]).1
  | [], j, h, i, hi => by simp at h
  | d :: D, j, h, i, hi => by
    have e : brF (d :: D) = [d.1, d.1, d.1, d.1] ++ brF D := by unfold brF; rw [List.flatMap_cons]
    rw [e]
    cases j with
    | zero =>
      match i with
      | 0 | 1 | 2 | 3 => rfl
      | i + 4 => omega
    | succ j =>
      have := brF_at D j (by simpa using h) i hi
      rw [show 4 * (j + 1) + i = (4 * j + i) + 4 by omega]
      exact this
theorem fv_at {zs : List Nat} {E : List (Option Nat)} (hz : zs.map (Fl.fv .f32) = E) {k : Nat} {o : Option Nat} (h : E[k]? = some o) : Fl.fv .f32 (zs.getD k 0) = o := by
  rw [← hz, List.getElem?_map] at h
  cases e : zs[k]? with
  | none => rw [e] at h; cases h
  | some x =>
    rw [e] at h
    simp only [Option.map_some, Option.some.injEq] at h
    rw [List.getD_eq_getElem?_getD, e]
    exact h
theorem br_at {xs zs : List Nat} {T : List T3} (h : SR xs T) (hz : zs.map (Fl.fv .f32) = brF (decl xs false T.length)) {j : Nat} (hj : j < T.length) (i : Nat) (hi : i < 4) : Fl.sv (Fl.fv .f32 (zs.getD (4 * j + i) 0)) = some (Fl.six (T.getD j t0).1) := by
  have hd : (decl xs false T.length).length = T.length := by simp [decl]
  rw [fv_at hz (brF_at _ j (by rw [hd]; exact hj) i hi)]
  have e : (decl xs false T.length)[j]'(by rw [hd]; exact hj) = decAt xs false j := by simp [decl]
  rw [e]
  exact (h.dec hj).1
theorem getD_map {α β : Type} {f : α → β} {l : List α} {j : Nat} {a : α} {b : β} (h : j < l.length) : (l.map f).getD j b = f (l.getD j a) := by
  simp [List.getD, h]
theorem sr_br {xs zs : List Nat} {T : List T3} (h : SR xs T) (hz : zs.map (Fl.fv .f32) = brF (decl xs false T.length)) : SR zs (T.map fun t => (t.1, 0, 0)) := by
  have hzl : zs.length = 4 * T.length := by
    have := congrArg List.length hz
    rw [List.length_map, brF_len] at this
    simpa [decl] using this
  refine ⟨by rw [List.length_map]; exact hzl, fun j hj => ?_⟩
  rw [List.length_map] at hj
  rw [getD_map (a := t0) hj]
  obtain ⟨⟨b1, b2, b3⟩, _⟩ := h.2 j hj
  have q := br_at h hz hj
  have q0 := q 0 (by omega)
  rw [Nat.add_zero] at q0
  refine ⟨⟨b1, by simp, by simp⟩, ?_⟩
  simp only [Int.neg_zero, Int.add_zero]
  exact ⟨q0, q 1 (by omega), q 2 (by omega), q 3 (by omega)⟩
theorem xs_at {xs : List Nat} {k : Nat} (h : k < xs.length) : xs[k]? = some (xs.getD k 0) := by simp [List.getD, h]
theorem sr_col {xs zs : List Nat} {T : List T3} (h : SR xs T) (hz : zs.map (Fl.fv .f32) = colv xs (brF (decl xs false T.length))) : SR zs (T.map fun t => (0, t.2.1, t.2.2)) := by
  have hd : (decl xs false T.length).length = T.length := by simp [decl]
  have hel : (brF (decl xs false T.length)).length = xs.length := by rw [brF_len, hd, h.1]
  have hzl : zs.length = 4 * T.length := by
    have := congrArg List.length hz
    rw [List.length_map, colv_len _ _ hel, h.1] at this
    exact this
  refine ⟨by rw [List.length_map]; exact hzl, fun j hj => ?_⟩
  rw [List.length_map] at hj
  rw [getD_map (a := t0) hj]
  obtain ⟨⟨b1, b2, b3⟩, s0, s1, s2, s3⟩ := h.2 j hj
  have hx := h.1
  have at_ : ∀ i (hi : i < 4) {p : Int}, p.natAbs ≤ 512 → Fl.sv (Fl.fv .f32 (xs.getD (4 * j + i) 0)) = some (Fl.six ((T.getD j t0).1 + p)) → Fl.sv (Fl.fv .f32 (zs.getD (4 * j + i) 0)) = some (Fl.six p) := by
    intro i hi p hp hs
    have e : (colv xs (brF (decl xs false T.length)))[4 * j + i]? = some (Fl.fop .sub .f32 (Fl.fv .f32 (xs.getD (4 * j + i) 0)) (decAt xs false j).1) := by
      unfold colv
      rw [List.getElem?_zipWith, xs_at (by omega), brF_at _ j (by rw [hd]; exact hj) i hi]
      have e2 : (decl xs false T.length)[j]'(by rw [hd]; exact hj) = decAt xs false j := by simp [decl]
      rw [e2]
    rw [fv_at hz e]
    have := Fl.sv6_sub hs (h.dec hj).1 (by omega)
    rw [this]
    congr 2
    omega
  have q0 := at_ 0 (by omega) b2 s0
  refine ⟨⟨by simp, b2, b3⟩, ?_⟩
  simp only [Int.zero_add]
  exact ⟨q0, at_ 1 (by omega) (by omega) s1, at_ 2 (by omega) (by omega) s2, at_ 3 (by omega) b3 s3⟩
set_option maxHeartbeats 400000 in
/-- the sum of brightness and colouring is the samples -/
theorem sum_eq {xs ys cs zs : List Nat} {T : List T3} (h : SR xs T) (hy : SR ys (T.map fun t => (t.1, 0, 0))) (hc : SR cs (T.map fun t => (0, t.2.1, t.2.2))) (hz : zs.map (Fl.fv .f32) = addv ys cs) :
    zs.length = xs.length ∧ ∀ k, k < xs.length → (FloatKind.f32.format.order (zs.getD k 0) (xs.getD k 0) == some .eq) = true := by
  have l1 := h.1
  have l2 := hy.1
  have l3 := hc.1
  rw [List.length_map] at l2 l3
  refine ⟨?_, fun k hk => ?_⟩
  · have := congrArg List.length hz
    rw [List.length_map, addv_length _ _ (by omega)] at this
    omega
  · have hj : k / 4 < T.length := by omega
    have e : (addv ys cs)[k]? = some (Fl.fop .add .f32 (Fl.fv .f32 (ys.getD k 0)) (Fl.fv .f32 (cs.getD k 0))) := by
      unfold addv
      rw [List.getElem?_zipWith, xs_at (by omega), xs_at (by omega)]
    have ez := fv_at hz e
    obtain ⟨⟨b1, b2, b3⟩, s0, s1, s2, s3⟩ := h.2 (k / 4) hj
    obtain ⟨_, y0, y1, y2, y3⟩ := hy.2 (k / 4) (by rw [List.length_map]; exact hj)
    obtain ⟨_, c0', c1, c2, c3⟩ := hc.2 (k / 4) (by rw [List.length_map]; exact hj)
    rw [getD_map (a := t0) hj] at y0 y1 y2 y3 c0' c1 c2 c3
    clear h hy hc hz
    generalize T.getD (k / 4) t0 = t at *
    obtain ⟨y, r, i⟩ := t
    dsimp only at b1 b2 b3 s0 s1 s2 s3 y0 y1 y2 y3 c0' c1 c2 c3
    have fin : ∀ (a b q : Int), Fl.sv (Fl.fv .f32 (xs.getD k 0)) = some (Fl.six q) → Fl.sv (Fl.fv .f32 (ys.getD k 0)) = some (Fl.six a) → Fl.sv (Fl.fv .f32 (cs.getD k 0)) = some (Fl.six b) → a + b = q → q.natAbs ≤ 4096 → (FloatKind.f32.format.order (zs.getD k 0) (xs.getD k 0) == some .eq) = true := by
      intro a b q hx ha hb hq hb2
      have h1 := Fl.sv6_add ha hb (by omega)
      rw [hq] at h1
      rw [Fl.sv_fv] at hx
      exact Fl.eq_of_sc (Fl.fv_sv ez h1) hx
    rcases (by omega : k % 4 = 0 ∨ k % 4 = 1 ∨ k % 4 = 2 ∨ k % 4 = 3) with e4 | e4 | e4 | e4
    · have ek : 4 * (k / 4) = k := by omega
      rw [ek] at s0 y0 c0'
      exact fin (y + 0) (0 + r) (y + r) s0 y0 c0' (by omega) (by omega)
    · have ek : 4 * (k / 4) + 1 = k := by omega
      rw [ek] at s1 y1 c1
      exact fin (y + -0) (0 + -i) (y + -i) s1 y1 c1 (by omega) (by omega)
    · have ek : 4 * (k / 4) + 2 = k := by omega
      rw [ek] at s2 y2 c2
      exact fin (y + -0) (0 + -r) (y + -r) s2 y2 c2 (by omega) (by omega)
    · have ek : 4 * (k / 4) + 3 = k := by omega
      rw [ek] at s3 y3 c3
      exact fin (y + 0) (0 + i) (y + i) s3 y3 c3 (by omega) (by omega)
end Go.Proofs.Ytbjllfnjecggfaa
