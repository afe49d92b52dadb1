/- Walks: slices.Clone of cells; Conjugate; ScaleRow by 1. -/
import Derived.Test.YtbjllfnjecggfaaGb
import Derived.Test.YtbjllfnjecggfaaUi
import Derived.Laws.CopyOwn
namespace Go.Proofs.Ytbjllfnjecggfaa
open Go.RowKit

theorem Rc.addr {w : World} {v : Value} {l : List CV} (h : Rc w v l) : (∃ c, v = .slice none 0 c ∧ l = []) ∨ ∃ ad c, v = .slice (some ad) l.length c ∧ ∀ j u, (cells l)[j]? = some u → w.cell? (ad.add j) = some u := by
  rcases h with ⟨o, c, rfl, rfl⟩ | ⟨b, off, cap, rfl, h1, h2, hc⟩
  · cases o with
    | none => exact .inl ⟨c, rfl, rfl⟩
    | some ad => exact .inr ⟨ad, c, rfl, fun j u hu => by simp [cells] at hu⟩
  · refine .inr ⟨_, cap, rfl, fun j u hu => ?_⟩
    have hj : j < l.length * 2 := by have := (List.getElem?_eq_some_iff.1 hu).1; rwa [cells_len] at this
    have hj2 : j / 2 < l.length := by omega
    obtain ⟨e1, e2⟩ := cells_at l (j / 2) hj2
    obtain ⟨c1, c2⟩ := hc (j / 2) hj2
    rw [Addr.add_lit]
    rcases (by omega : j = j / 2 * 2 ∨ j = j / 2 * 2 + 1) with e | e
    · rw [e] at hu ⊢
      rw [c1, ← hu, e1]
    · rw [e] at hu ⊢
      rw [← Nat.add_assoc, c2, ← hu, e2]
set_option maxRecDepth 100000 in
set_option maxHeartbeats 400000 in
theorem cloneC_any (v : Value) (l : List CV) (w : World) (hR : Rc w v l) (hlen : l.length ≤ 1048576) :
    Calls Try.prog 105 #[v] w fun e w' => ∃ r, e = .returned r ∧ Oc w' w.heap.size r l ∧ Below w.heap.size w w' := by
  obtain ⟨i0, hi, hz0, hz1, hz2⟩ := info_parts info48
  rcases hR.addr with ⟨c, rfl, rfl⟩ | ⟨ad, c, rfl, hc⟩
  · have heq := fun wx => Lib.run_eql_slice_nil (P := Try.prog) wx 40 48 none 0 c 0 0 Try.underlying40
    go_enter Try.func105, Try.ntmps105
    go_wp2
    go_ret
    exact ⟨_, rfl, World.ownsRow_nil _ _ _ _, Below.refl _ _⟩
  · have heq := fun wx => Lib.run_eql_slice_nil (P := Try.prog) wx 40 48 (some ad) l.length c 0 0 Try.underlying40
    have HC := Lib.hid hc
    clear hc
    go_enter Try.func105, Try.ntmps105
    go_wp2_with (at_builtin; refine wpList_append_own _ rfl _ _ 40 rfl w.heap.size 48 i0 (.agg #[.float .f32 0, .complex .f32 0 0]) 2 12 Try.underlying40 hi hz0 hz1 hz2 rfl (by decide) _ 0 [] rfl (oc_nil w) ad l.length c (cells l) rfl (cells_len l) (cells_old _ HC.out) (cells_one_cell l) (by unfold maxLen; omega) (by omega) (by simp) ?_; intro v' w1 hown1 hgrow1 _)
    go_ret
    refine ⟨_, rfl, ?_, ((Below.refl _ _).alloc (Nat.le_refl _) _).grown hgrow1 (by simp) (fun k hk => by cases hk; exact Nat.le_refl _)⟩
    simpa [Oc] using hown1

/-! ### one cell of an own row is stored -/
theorem own_set {w : World} {B e size g cap n : Nat} {xs : List Value} (h : w.ownsRow B e size (.slice (some ⟨g, 0, none⟩) n cap) n xs) (k : Nat) (u : Value) : (w.setCell ⟨g, k, none⟩ u).ownsRow B e size (.slice (some ⟨g, 0, none⟩) n cap) n (xs.set k u) := by
  refine ⟨by rw [List.length_set]; exact h.1, ?_⟩
  rcases h.2 with ⟨h1, _⟩ | ⟨g', cap', cur, h1, h2, h3, h4, h5, h6, h7⟩
  · cases h1
  · cases h1
    refine .inr ⟨g, cap, cur.setIfInBounds k u, rfl, h2, ?_, h4, h5, by simpa using h6, ?_⟩
    · simp [World.setCell, Array.getElem?_modify, h3]
    · rw [Array.toList_setIfInBounds, List.take_set, h7]
theorem own_frozen {w : World} {B e size g cap n m : Nat} {xs : List Value} (h : w.ownsRow B e size (.slice (some ⟨g, 0, none⟩) m cap) n xs) (k : Nat) : w.frozen? ⟨g, k, none⟩ = false := by
  rcases h.2 with ⟨h1, _⟩ | ⟨g', cap', cur, h1, h2, h3, _⟩
  · cases h1
  · cases h1; simp [World.frozen?, h3]
theorem cells_setC (l : List CV) : ∀ j y re im re' im', l.getD j c0 = (y, re, im) → j < l.length → (cells l).set (j * 2 + 1) (.complex .f32 re' im') = cells (l.set j (y, re', im')) := by
  induction l with
  | nil => intro j y re im re' im' _ h; simp at h
  | cons c l ih =>
    intro j y re im re' im' h hj
    cases j with
    | zero => simp at h; subst h; rfl
    | succ j =>
      have e : (j + 1) * 2 + 1 = (j * 2 + 1) + 2 := by omega
      rw [e]
      show _ :: _ :: (cells l).set (j * 2 + 1) _ = _ :: _ :: cells (l.set j _)
      rw [ih j y re im re' im' (by simpa using h) (by simpa using hj)]
theorem oc_set {w : World} {B g cap n : Nat} {l : List CV} (hn : n = l.length) (h : Oc w B (.slice (some ⟨g, 0, none⟩) n cap) l) {j y re im : Nat} (hy : l.getD j c0 = (y, re, im)) (hj : j < l.length) (re' im' : Nat) :
    Oc (w.setCell ⟨g, j * 2 + 1, none⟩ (.complex .f32 re' im')) B (.slice (some ⟨g, 0, none⟩) n cap) (l.set j (y, re', im')) := by
  subst hn
  unfold Oc at h ⊢
  rw [← cells_setC l j y re im re' im' hy hj, List.length_set]
  exact own_set h _ _
theorem oc_form {w : World} {B : Nat} {v : Value} {l : List CV} (h : Oc w B v l) (h1 : 1 ≤ l.length) : ∃ g cap, v = .slice (some ⟨g, 0, none⟩) l.length cap ∧ B ≤ g ∧ g < w.heap.size ∧ ∀ j, j < l.length → w.cell? ⟨g, j * 2, none⟩ = some (.float .f32 (l.getD j c0).1) ∧ w.cell? ⟨g, j * 2 + 1, none⟩ = some (.complex .f32 (l.getD j c0).2.1 (l.getD j c0).2.2) := by
  have hc := h.rc
  rcases h.2 with ⟨rfl, h0⟩ | ⟨g, cap, cur, rfl, hB, hg, hn, hm, _, ht⟩
  · omega
  · refine ⟨g, cap, rfl, hB, lt_of_heap hg, fun j hj => ?_⟩
    rcases hc with ⟨o, c, e, e2⟩ | ⟨b, off, cap', e, _, _, h4⟩
    · subst e2; simp at h1
    · cases e
      have := h4 j hj
      simpa using this

/-- a colour with the other sign of its second part -/
def conjC (c : CV) : CV := (c.1, c.2.1, Op.negFloat .f32 c.2.2)
def conjTo (l : List CV) (j : Nat) : List CV := (l.take j).map conjC ++ l.drop j
theorem conjTo_len (l : List CV) (j : Nat) : (conjTo l j).length = l.length := by unfold conjTo; simp; omega
theorem conjTo_at (l : List CV) (j : Nat) (h : j < l.length) : (conjTo l j).getD j c0 = l.getD j c0 := by
  unfold conjTo
  have e : ((l.take j).map conjC).length = j := by simp; omega
  rw [List.getD_eq_getElem?_getD, List.getElem?_append_right (by omega), e]
  simp [List.getD]
theorem conjTo_succ (l : List CV) (j : Nat) (h : j < l.length) : conjTo l (j + 1) = (conjTo l j).set j (conjC (l.getD j c0)) := by
  unfold conjTo
  have e : ((l.take j).map conjC).length = j := by simp; omega
  rw [List.set_append_right _ _ (by omega), e, Nat.sub_self, getDC_take_succ l j h, List.map_append, List.append_assoc]
  congr 1
  rw [List.drop_eq_getElem_cons h]
  rfl
theorem conjTo_zero (l : List CV) : conjTo l 0 = l := by simp [conjTo]
theorem conjTo_all (l : List CV) : conjTo l l.length = l.map conjC := by simp [conjTo]
def CjPost (w : World) (q : Bool) (l : List CV) (e : Ending) (w' : World) : Prop :=
  ∃ r, e = .returned r ∧ Oc w' w.heap.size r (if q = true then l.map conjC else []) ∧ Below w.heap.size w w'
theorem rowB_len {l : List CV} (h : rowB l = true) : 1 ≤ l.length ∧ l.length ≤ 64 := by
  unfold rowB at h
  simp at h
  omega
set_option maxRecDepth 100000 in
set_option maxHeartbeats 1000000 in
theorem conjI_any (v : Value) (l : List CV) (q : Bool) (w : World) (hR : Rc w v l) (hlen : l.length ≤ 1048576) (hq : rowB l = q) :
    Calls Try.prog 59 #[v] w (CjPost w q l) := by
  have HQ := Lib.hid hq
  cases q
  · clear hq
    go_enter Try.func59, Try.ntmps59
    go_wp2_with fail
    refine (rowI_any v l false w hR hlen HQ.out).mono ?_
    rintro e w1 ⟨rfl, hb1⟩
    go_wp2
    go_ret
    exact ⟨_, rfl, World.ownsRow_nil _ _ _ _, hb1⟩
  · obtain ⟨n1, n2⟩ := rowB_len hq
    clear hq
    go_enter Try.func59, Try.ntmps59
    go_wp2_with fail
    refine (rowI_any v l true w hR hlen HQ.out).mono ?_
    rintro e w1 ⟨rfl, hb1⟩
    have hR1 := hR.below hb1
    go_wp2_with fail
    refine (cloneC_any v l w1 hR1 hlen).mono ?_
    rintro e w2 ⟨r, rfl, hO, hb2⟩
    have hO := own_base hO hb1.size
    have hO : Oc w2 w.heap.size r l := hO
    have hbw2 : Below w.heap.size w w2 := hb1.trans (hb2.mono hb1.size)
    obtain ⟨g, cap, rfl, hBg, hg, _⟩ := oc_form hO n1
    clear hb1 hb2 hR1
    go_wp2
    go_loopw [12, 4] (fun i _ wr => ∃ j : Nat, j ≤ l.length ∧ i = .int .i64 j ∧ Hid (Oc wr w.heap.size (.slice (some ⟨g, 0, none⟩) l.length cap) (conjTo l j)) ∧ Below w.heap.size w wr) (fun i _ _ => l.length - (intOf i).toNat)
    case atStart => exact ⟨0, Nat.zero_le _, rfl, Lib.hid (by rw [conjTo_zero]; exact hO), hbw2⟩
    case round =>
      obtain ⟨j, hj, rfl, hown, hbw⟩ := hrel
      by_cases hlt : j < l.length
      · have hcl := conjTo_len l j
        obtain ⟨g', cap', e', _, _, hc⟩ := oc_form hown.out (by omega)
        rw [hcl] at e'
        cases e'
        obtain ⟨c1, c2⟩ := hc j (by omega)
        have hf := own_frozen hown.out (j * 2 + 1)
        have hat := conjTo_at l j hlt
        rw [hat] at c1 c2
        have hsu := conjTo_succ l j hlt
        generalize l.getD j c0 = x at *
        obtain ⟨y, re, im⟩ := x
        dsimp only at c1 c2
        have hO' := oc_set (by omega) hown.out hat (by omega) re (Op.negFloat .f32 im)
        rw [show (y, re, Op.negFloat .f32 im) = conjC (y, re, im) from rfl, ← hsu] at hO'
        have HO' := Lib.hid hO'
        clear hO' hown hc hat hsu hcl
        go_wp2_with (go_at_call 106; refine (conj_any _ _ _).mono ?_; rintro e w3 ⟨rfl, rfl⟩)
        go_roundw
        case rel => exact ⟨j + 1, by omega, by go_num, HO', hbw.setCell hBg _⟩
        case measure => simp [intOf]; omega
      · have hke : j = l.length := by omega
        subst hke
        rw [conjTo_all] at hown
        go_wp2
        go_ret
        exact ⟨_, rfl, hown.out, hbw⟩
end Go.Proofs.Ytbjllfnjecggfaa
