/- Words for pictures that lie from a block on; what stays of one when a cell is written. -/
import Derived.Test.YtbjllfnjecggfaaZf
namespace Go.Proofs.Ytbjllfnjecggfaa
open Go.RowKit

/-- a picture that is read, its blocks from B on -/
def Rq (w : World) (B : Nat) (v : Value) (L : Pic) : Prop :=
  (L = [] ∧ ∃ o c, v = .slice o 0 c) ∨
  ∃ b off cap, v = .slice (some ⟨b, off, none⟩) L.length cap ∧ (B ≤ b ∧ b < w.heap.size ∧ Frz w b) ∧ ∀ i, i < L.length → ∃ u, w.cell? ⟨b, off + i, none⟩ = some u ∧ Rc w u (L.getD i []) ∧ ∀ k, inB u k → B ≤ k ∧ k < w.heap.size ∧ Frz w k
theorem Rq.rp {w : World} {B : Nat} {v : Value} {L : Pic} (h : Rq w B v L) : Rp w v L := by
  rcases h with h | ⟨b, off, cap, rfl, _, hc⟩
  · exact .inl h
  · refine .inr ⟨b, off, cap, rfl, fun i hi => ?_⟩
    obtain ⟨u, h1, h2, _⟩ := hc i hi
    obtain ⟨a, c, e⟩ := h2.form
    rw [e] at h1 h2
    exact ⟨a, c, h1, h2⟩
theorem Rq.move {w w' : World} {B : Nat} {v : Value} {L : Pic} (h : Rq w B v L) (hs : w.heap.size ≤ w'.heap.size) (hm : ∀ k, B ≤ k → k < w.heap.size → w'.heap[k]? = w.heap[k]?) : Rq w' B v L := by
  rcases h with h | ⟨b, off, cap, rfl, hb, hc⟩
  · exact .inl h
  · refine .inr ⟨b, off, cap, rfl, ⟨hb.1, Nat.lt_of_lt_of_le hb.2.1 hs, hb.2.2.move (hm b hb.1 hb.2.1)⟩, fun i hi => ?_⟩
    obtain ⟨u, h1, h2, h3⟩ := hc i hi
    refine ⟨u, ?_, h2.move fun k hk hlt => hm k (h3 k hk).1 hlt, fun k hk => ?_⟩
    · rw [World.cell?_of_block (w := w) (w' := w') (a := ⟨b, off + i, none⟩) (hm b hb.1 hb.2.1)]
      exact h1
    · obtain ⟨k1, k2, k3⟩ := h3 k hk
      exact ⟨k1, Nat.lt_of_lt_of_le k2 hs, k3.move (hm k k1 k2)⟩
theorem Rq.only {w w' : World} {B g : Nat} {v : Value} {L : Pic} (h : Rq w B v L) (ho : Only (fun j => g = j) w w') (hg : g < B) : Rq w' B v L := h.move ho.size fun k hB hk => ho.block k hk (fun e => by omega)
theorem Rq.below {w w' : World} {B : Nat} {v : Value} {L : Pic} (h : Rq w B v L) (hb : Below w.heap.size w w') : Rq w' B v L := h.move hb.size fun k _ hk => hb.block k hk
theorem OP.rq {w : World} {B : Nat} {v : Value} {L : Pic} (h : OP w B v L) : Rq w B v L := by
  obtain ⟨us, hl, ho, hr⟩ := h
  have ho0 := ho
  rcases ho.2 with ⟨rfl, h0⟩ | ⟨g, cap, cur, rfl, hB, hg, hn, hm, _, ht⟩
  · exact .inl ⟨List.eq_nil_of_length_eq_zero h0, _, _, rfl⟩
  · refine .inr ⟨g, 0, cap, rfl, ⟨hB, lt_of_heap hg, fun j => own_frozen ho0 j⟩, fun i hi => ?_⟩
    obtain ⟨r1, r2⟩ := hr i hi
    have h1 := World.ownsRow.cells ho (g := g) rfl i (us.getD i undef) (by simp [List.getD, hl, hi])
    rw [Addr.add_lit] at h1
    exact ⟨_, h1, r1, fun k hk => ⟨(r2 k hk).1, (r2 k hk).2.1, (r2 k hk).2.2.2⟩⟩
theorem getD_drop {α : Type} {l : List α} {i : Nat} {d : α} : (l.drop 1).getD i d = l.getD (i + 1) d := by
  simp [List.getD]
/-- without its first row -/
theorem Rq.tail {w : World} {B b off cap : Nat} {L : Pic} (h : Rq w B (.slice (some ⟨b, off, none⟩) L.length cap) L) (c : Nat) (h1 : 1 ≤ L.length) : Rq w B (.slice (some ⟨b, off + 1, none⟩) (L.length - 1) c) (L.drop 1) := by
  rcases h with ⟨e, _⟩ | ⟨b', off', cap', e, hb, hc⟩
  · subst e; simp at h1
  · cases e
    have hl : (L.drop 1).length = L.length - 1 := List.length_drop
    refine .inr ⟨b, off + 1, c, by rw [hl], hb, fun i hi => ?_⟩
    rw [hl] at hi
    obtain ⟨u, h2, h3, h4⟩ := hc (i + 1) (by omega)
    refine ⟨u, ?_, by rw [getD_drop]; exact h3, h4⟩
    rw [show off + 1 + i = off + (i + 1) by omega]
    exact h2
/-- a row without its first cell -/
theorem Rc.tail {w : World} {b off cap : Nat} {l : List CV} (h : Rc w (.slice (some ⟨b, off, none⟩) l.length cap) l) (h1 : 2 ≤ l.length) : Rc w (.slice (some ⟨b, off + 2, none⟩) (l.length - 1) (cap - 1)) (l.drop 1) := by
  rcases h with ⟨o, c, _, e⟩ | ⟨b', off', cap', e, h2, h3, hc⟩
  · subst e; simp at h1
  · cases e
    have hl : (l.drop 1).length = l.length - 1 := List.length_drop
    refine .inr ⟨b, off + 2, cap - 1, by rw [hl], by rw [hl]; omega, by omega, fun j hj => ?_⟩
    rw [hl] at hj
    obtain ⟨e1, e2⟩ := hc (j + 1) (by omega)
    rw [getD_drop, show off + 2 + j * 2 = off + (j + 1) * 2 by omega]
    exact ⟨e1, e2⟩
/-- what a step keeps of the cells' kinds: a float stays one, a colour stays one, a slice stays as it is -/
structure Typ (w w' : World) : Prop where
  fl : ∀ (p : Addr) x, w.cell? p = some (.float .f32 x) → ∃ x', w'.cell? p = some (.float .f32 x')
  co : ∀ (p : Addr) x y, w.cell? p = some (.complex .f32 x y) → ∃ x' y', w'.cell? p = some (.complex .f32 x' y')
  sl : ∀ (p : Addr) o n c, w.cell? p = some (.slice o n c) → w'.cell? p = some (.slice o n c)
  fz : ∀ q : Addr, w'.frozen? q = w.frozen? q
  sz : w'.heap.size = w.heap.size
theorem Typ.trans {a b c : World} (h : Typ a b) (k : Typ b c) : Typ a c :=
  ⟨fun p x hx => by obtain ⟨y, hy⟩ := h.fl p x hx; exact k.fl p y hy, fun p x y hx => by obtain ⟨x', y', hy⟩ := h.co p x y hx; exact k.co p x' y' hy, fun p o n c hx => k.sl p o n c (h.sl p o n c hx), fun q => (k.fz q).trans (h.fz q), k.sz.trans h.sz⟩
theorem Typ.setF {w : World} {p : Addr} {x : Nat} (h : w.cell? p = some (.float .f32 x)) (y : Nat) : Typ w (w.setCell p (.float .f32 y)) := by
  refine ⟨fun q z hq => ?_, fun q z z' hq => ?_, fun q o n c hq => ?_, fun q => World.frozen?_setCell _ _ _ _, by simp⟩
  · by_cases e : p = q
    · subst e; exact ⟨y, World.cell?_setCell_same _ _ _ h⟩
    · exact ⟨z, (World.cell?_setCell_other _ _ _ _ e).trans hq⟩
  · have e : p ≠ q := fun e => by subst e; rw [h] at hq; cases hq
    exact ⟨z, z', (World.cell?_setCell_other _ _ _ _ e).trans hq⟩
  · have e : p ≠ q := fun e => by subst e; rw [h] at hq; cases hq
    exact (World.cell?_setCell_other _ _ _ _ e).trans hq
theorem Typ.setC {w : World} {p : Addr} {x y : Nat} (h : w.cell? p = some (.complex .f32 x y)) (x' y' : Nat) : Typ w (w.setCell p (.complex .f32 x' y')) := by
  refine ⟨fun q z hq => ?_, fun q z z' hq => ?_, fun q o n c hq => ?_, fun q => World.frozen?_setCell _ _ _ _, by simp⟩
  · have e : p ≠ q := fun e => by subst e; rw [h] at hq; cases hq
    exact ⟨z, (World.cell?_setCell_other _ _ _ _ e).trans hq⟩
  · by_cases e : p = q
    · subst e; exact ⟨x', y', World.cell?_setCell_same _ _ _ h⟩
    · exact ⟨z, z', (World.cell?_setCell_other _ _ _ _ e).trans hq⟩
  · have e : p ≠ q := fun e => by subst e; rw [h] at hq; cases hq
    exact (World.cell?_setCell_other _ _ _ _ e).trans hq
theorem build_row {P : Nat → CV → Prop} : ∀ n, (∀ j, j < n → ∃ c, P j c) → ∃ l : List CV, l.length = n ∧ ∀ j, j < n → P j (l.getD j c0)
  | 0, _ => ⟨[], rfl, fun j hj => by omega⟩
  | n + 1, h => by
    obtain ⟨l, hl, hp⟩ := build_row (P := P) n (fun j hj => h j (by omega))
    obtain ⟨c, hc⟩ := h n (by omega)
    refine ⟨l ++ [c], by simp [hl], fun j hj => ?_⟩
    rw [getD_snoc, hl]
    by_cases e : j < n
    · rw [if_pos e]; exact hp j e
    · have : j = n := by omega
      rw [if_neg e, if_pos this, this]; exact hc
theorem Rc.typ {w w' : World} {u : Value} {l : List CV} (h : Rc w u l) (ht : Typ w w') : ∃ l', l'.length = l.length ∧ Rc w' u l' := by
  rcases h with ⟨o, c, e, e2⟩ | ⟨b, off, cap, e, h2, h3, hc⟩
  · exact ⟨l, rfl, .inl ⟨o, c, e, e2⟩⟩
  · obtain ⟨l', hl, hp⟩ := build_row (P := fun j c => w'.cell? ⟨b, off + j * 2, none⟩ = some (.float .f32 c.1) ∧ w'.cell? ⟨b, off + j * 2 + 1, none⟩ = some (.complex .f32 c.2.1 c.2.2)) l.length (fun j hj => by
      obtain ⟨e1, e2⟩ := hc j hj
      obtain ⟨x, hx⟩ := ht.fl _ _ e1
      obtain ⟨y, z, hy⟩ := ht.co _ _ _ e2
      exact ⟨(x, y, z), hx, hy⟩)
    exact ⟨l', hl, .inr ⟨b, off, cap, by rw [hl]; exact e, by rw [hl]; exact h2, h3, fun j hj => hp j (by rw [← hl]; exact hj)⟩⟩
theorem build_pic {P : Nat → List CV → Prop} : ∀ n, (∀ j, j < n → ∃ l, P j l) → ∃ L : Pic, L.length = n ∧ ∀ j, j < n → P j (L.getD j [])
  | 0, _ => ⟨[], rfl, fun j hj => by omega⟩
  | n + 1, h => by
    obtain ⟨l, hl, hp⟩ := build_pic (P := P) n (fun j hj => h j (by omega))
    obtain ⟨c, hc⟩ := h n (by omega)
    refine ⟨l ++ [c], by simp [hl], fun j hj => ?_⟩
    rw [getD_snoc, hl]
    by_cases e : j < n
    · rw [if_pos e]; exact hp j e
    · have : j = n := by omega
      rw [if_neg e, if_pos this, this]; exact hc
/-- cells were written, each by one of its kind: a picture stays one -/
theorem Rq.typ {w w' : World} {B : Nat} {v : Value} {L : Pic} (h : Rq w B v L) (ht : Typ w w') : ∃ L' : Pic, L'.length = L.length ∧ (∀ i, i < L.length → (L'.getD i []).length = (L.getD i []).length) ∧ Rq w' B v L' := by
  rcases h with ⟨e, o⟩ | ⟨b, off, cap, e, hb, hc⟩
  · exact ⟨L, rfl, fun _ _ => rfl, .inl ⟨e, o⟩⟩
  · obtain ⟨L', hl, hp⟩ := build_pic (P := fun i l => l.length = (L.getD i []).length ∧ ∃ u, w'.cell? ⟨b, off + i, none⟩ = some u ∧ Rc w' u l ∧ ∀ k, inB u k → B ≤ k ∧ k < w'.heap.size ∧ Frz w' k) L.length (fun i hi => by
      obtain ⟨u, h1, h2, h3⟩ := hc i hi
      obtain ⟨l', e1, e2⟩ := h2.typ ht
      obtain ⟨a, c, eu⟩ := h2.form
      refine ⟨l', e1, u, ?_, e2, fun k hk => ⟨(h3 k hk).1, by rw [ht.sz]; exact (h3 k hk).2.1, fun j => (ht.fz _).trans ((h3 k hk).2.2 j)⟩⟩
      rw [eu] at h1 ⊢
      exact ht.sl _ _ _ _ h1)
    exact ⟨L', hl, fun i hi => (hp i hi).1, .inr ⟨b, off, cap, by rw [hl]; exact e, ⟨hb.1, by rw [ht.sz]; exact hb.2.1, fun j => (ht.fz _).trans (hb.2.2 j)⟩, fun i hi => (hp i (by rw [← hl]; exact hi)).2⟩⟩
/-- one row is put in the place of another -/
theorem Rq.put {w : World} {B b off cap : Nat} {L : Pic} (h : Rq w B (.slice (some ⟨b, off, none⟩) L.length cap) L) {k : Nat} (hk : k < L.length) {u : Value} {l : List CV} (hu : Rc w u l) (hB : ∀ q, inB u q → B ≤ q ∧ q < w.heap.size ∧ Frz w q) {old : Value} (ho : w.cell? ⟨b, off + k, none⟩ = some old) (hsl : ∃ o n c, old = .slice o n c) :
    Rq (w.setCell ⟨b, off + k, none⟩ u) B (.slice (some ⟨b, off, none⟩) L.length cap) (L.set k l) := by
  rcases h with ⟨e, _⟩ | ⟨b', off', cap', e, hb, hc⟩
  · subst e; simp at hk
  cases e
  have hrow : ∀ x y, Rc w x y → Rc (w.setCell ⟨b, off + k, none⟩ u) x y := by
    intro x y hx
    rcases hx with hx | ⟨b2, o2, cap2, e2, h2, h3, h4⟩
    · exact .inl hx
    · refine .inr ⟨b2, o2, cap2, e2, h2, h3, fun j hj => ?_⟩
      obtain ⟨e1, e3⟩ := h4 j hj
      obtain ⟨o, n, c, rfl⟩ := hsl
      have d1 : (⟨b, off + k, none⟩ : Addr) ≠ ⟨b2, o2 + j * 2, none⟩ := fun e => by rw [e, e1] at ho; cases ho
      have d2 : (⟨b, off + k, none⟩ : Addr) ≠ ⟨b2, o2 + j * 2 + 1, none⟩ := fun e => by rw [e, e3] at ho; cases ho
      exact ⟨(World.cell?_setCell_other _ _ _ _ d1).trans e1, (World.cell?_setCell_other _ _ _ _ d2).trans e3⟩
  have hfz : ∀ q, Frz w q → Frz (w.setCell ⟨b, off + k, none⟩ u) q := fun q hq j => (World.frozen?_setCell _ _ _ _).trans (hq j)
  have hsz : ∀ q, q < w.heap.size → q < (w.setCell ⟨b, off + k, none⟩ u).heap.size := fun q hq => by simpa using hq
  refine .inr ⟨b, off, cap, by rw [List.length_set], ⟨hb.1, hsz _ hb.2.1, hfz _ hb.2.2⟩, fun i hi => ?_⟩
  rw [List.length_set] at hi
  by_cases e : k = i
  · subst e
    refine ⟨u, World.cell?_setCell_same _ _ _ ho, ?_, fun q hq => ⟨(hB q hq).1, hsz _ (hB q hq).2.1, hfz _ (hB q hq).2.2⟩⟩
    have : (L.set k l).getD k [] = l := by simp [List.getD, hk]
    rw [this]
    exact hrow _ _ hu
  · obtain ⟨x, h1, h2, h3⟩ := hc i hi
    have d : (⟨b, off + k, none⟩ : Addr) ≠ ⟨b, off + i, none⟩ := fun e' => by
      have : off + k = off + i := congrArg Addr.off e'
      omega
    refine ⟨x, (World.cell?_setCell_other _ _ _ _ d).trans h1, ?_, fun q hq => ⟨(h3 q hq).1, hsz _ (h3 q hq).2.1, hfz _ (h3 q hq).2.2⟩⟩
    have : (L.set k l).getD i [] = L.getD i [] := by simp [List.getD, List.getElem?_set_ne e]
    rw [this]
    exact hrow _ _ h2
end Go.Proofs.Ytbjllfnjecggfaa
