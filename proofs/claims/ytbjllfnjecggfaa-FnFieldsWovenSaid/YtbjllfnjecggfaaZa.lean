/- Words for pictures: a slice of rows of cells that reads as a list of lists; a picture of the call's own. -/
import Derived.Test.YtbjllfnjecggfaaGc
namespace Go.Proofs.Ytbjllfnjecggfaa
open Go.RowKit

abbrev Pic := List (List CV)
/-- the row 'u' lies in block k -/
def inB (u : Value) (k : Nat) : Prop := ∃ off n c, u = .slice (some ⟨k, off, none⟩) n c
theorem Rc.move {w w' : World} {u : Value} {l : List CV} (h : Rc w u l) (hm : ∀ k, inB u k → k < w.heap.size → w'.heap[k]? = w.heap[k]?) : Rc w' u l := by
  rcases h with h | ⟨b, off, cap, h1, h2, h3, h4⟩
  · exact .inl h
  · refine .inr ⟨b, off, cap, h1, h2, h3, fun j hj => ?_⟩
    obtain ⟨e1, e2⟩ := h4 j hj
    have hb := hm b ⟨off, _, cap, h1⟩ (World.block_lt_of_cell? _ _ e1)
    rw [World.cell?_of_block (w := w) (w' := w') (a := ⟨b, off + j * 2, none⟩) hb, World.cell?_of_block (w := w) (w' := w') (a := ⟨b, off + j * 2 + 1, none⟩) hb]
    exact ⟨e1, e2⟩
/-- 'v' is a slice of rows that reads as 'L' -/
def Rp (w : World) (v : Value) (L : Pic) : Prop :=
  (L = [] ∧ ∃ o c, v = .slice o 0 c) ∨
  ∃ b off cap, v = .slice (some ⟨b, off, none⟩) L.length cap ∧ ∀ i, i < L.length → ∃ a c, w.cell? ⟨b, off + i, none⟩ = some (.slice a (L.getD i []).length c) ∧ Rc w (.slice a (L.getD i []).length c) (L.getD i [])
theorem Rp.below {w w' : World} {v : Value} {L : Pic} (h : Rp w v L) (hb : Below w.heap.size w w') : Rp w' v L := by
  rcases h with h | ⟨b, off, cap, h1, h2⟩
  · exact .inl h
  · refine .inr ⟨b, off, cap, h1, fun i hi => ?_⟩
    obtain ⟨a, c, e1, e2⟩ := h2 i hi
    exact ⟨a, c, (hb.cell (p := ⟨b, off + i, none⟩) (World.block_lt_of_cell? _ _ e1)).trans e1, e2.below hb⟩
theorem Rp.form {w : World} {v : Value} {L : Pic} (h : Rp w v L) : ∃ a c, v = .slice a L.length c := by
  rcases h with ⟨rfl, o, c, rfl⟩ | ⟨b, off, cap, rfl, _⟩
  · exact ⟨o, c, rfl⟩
  · exact ⟨_, cap, rfl⟩
/-- a block that may be written -/
def Frz (w : World) (k : Nat) : Prop := ∀ j, w.frozen? ⟨k, j, none⟩ = false
theorem Frz.move {w w' : World} {k : Nat} (h : Frz w k) (he : w'.heap[k]? = w.heap[k]?) : Frz w' k := fun j => (World.frozen?_of_block (w := w) (w' := w') (a := ⟨k, j, none⟩) he).trans (h j)
/-- a picture of the call's own: its rows lie from B on, none of them where the slice of rows lies -/
def OP (w : World) (B : Nat) (v : Value) (L : Pic) : Prop :=
  ∃ us : List Value, us.length = L.length ∧ w.ownsRow B 40 1 v L.length us ∧
    ∀ i, i < L.length → Rc w (us.getD i undef) (L.getD i []) ∧ ∀ k, inB (us.getD i undef) k → B ≤ k ∧ k < w.heap.size ∧ some k ≠ v.ownBlock ∧ Frz w k
theorem OP.nil (w : World) (B : Nat) : OP w B (.slice none 0 0) [] := ⟨[], rfl, World.ownsRow_nil _ _ _ _, fun i hi => by simp at hi⟩
theorem op_new (w : World) : OP (w.alloc (.cells #[] 40)) w.heap.size (.slice (some ⟨w.heap.size, 0, none⟩) 0 0) [] :=
  ⟨[], rfl, World.ownsRow_made w #[] 0 (Nat.le_refl _) (by unfold maxLen; omega) rfl, fun i hi => by simp at hi⟩
theorem Rc.slice {w : World} {u : Value} {l : List CV} (h : Rc w u l) : ∃ a c, u = .slice a l.length c := h.form
theorem OP.rp {w : World} {B : Nat} {v : Value} {L : Pic} (h : OP w B v L) : Rp w v L := by
  obtain ⟨us, hl, ho, hr⟩ := h
  rcases ho.2 with ⟨rfl, h0⟩ | ⟨g, cap, cur, rfl, _, hg, hn, hm, _, ht⟩
  · exact .inl ⟨List.eq_nil_of_length_eq_zero h0, _, _, rfl⟩
  · refine .inr ⟨g, 0, cap, rfl, fun i hi => ?_⟩
    obtain ⟨r1, _⟩ := hr i hi
    obtain ⟨a, c, e⟩ := r1.form
    have h1 := World.ownsRow.cells ho (g := g) rfl i (us.getD i undef) (by simp [List.getD, hl, hi])
    rw [Addr.add_lit] at h1
    rw [e] at h1 r1
    exact ⟨a, c, h1, r1⟩
/-- a step that leaves the picture's blocks alone -/
theorem OP.move {w w' : World} {B : Nat} {v : Value} {L : Pic} (h : OP w B v L) (hs : w.heap.size ≤ w'.heap.size) (hm : ∀ k, B ≤ k → k < w.heap.size → w'.heap[k]? = w.heap[k]?) : OP w' B v L := by
  obtain ⟨us, hl, ho, hr⟩ := h
  refine ⟨us, hl, ?_, fun i hi => ?_⟩
  · refine ⟨ho.1, ?_⟩
    rcases ho.2 with hn | ⟨g, cap, cur, rfl, hb, hgg, rest⟩
    · exact .inl hn
    · refine .inr ⟨g, cap, cur, rfl, hb, ?_, rest⟩
      rw [hm g hb (Array.getElem?_eq_some_iff.1 hgg).1]
      exact hgg
  · obtain ⟨r1, r2⟩ := hr i hi
    refine ⟨r1.move fun k hk hlt => hm k (r2 k hk).1 hlt, fun k hk => ?_⟩
    obtain ⟨b1, b2, b3, b4⟩ := r2 k hk
    exact ⟨b1, Nat.lt_of_lt_of_le b2 hs, b3, b4.move (hm k b1 b2)⟩
theorem OP.below {w w' : World} {B : Nat} {v : Value} {L : Pic} (h : OP w B v L) (hb : Below w.heap.size w w') : OP w' B v L := h.move hb.size fun k _ hk => hb.block k hk
theorem OP.only {w w' : World} {B g : Nat} {v : Value} {L : Pic} (h : OP w B v L) (ho : Only (fun j => g = j) w w') (hg : g < B) : OP w' B v L := h.move ho.size fun k hB hk => ho.block k hk (fun e => by omega)
theorem OP.lower {w : World} {B B' : Nat} {v : Value} {L : Pic} (h : OP w B v L) (hb : B' ≤ B) : OP w B' v L := by
  obtain ⟨us, hl, ho, hr⟩ := h
  refine ⟨us, hl, own_base ho hb, fun i hi => ?_⟩
  obtain ⟨r1, r2⟩ := hr i hi
  exact ⟨r1, fun k hk => ⟨Nat.le_trans hb (r2 k hk).1, (r2 k hk).2⟩⟩
theorem getD_snoc {α : Type} {l : List α} {x d : α} {i : Nat} : (l ++ [x]).getD i d = if i < l.length then l.getD i d else if i = l.length then x else d := by
  by_cases h : i < l.length
  · simp [List.getD, h, List.getElem?_append_left h]
  · rw [if_neg h]
    by_cases h2 : i = l.length
    · subst h2; simp [List.getD]
    · rw [if_neg h2]
      simp [List.getD, List.getElem?_eq_none (show (l ++ [x]).length ≤ i by simp; omega)]
/-- one row more -/
theorem OP.snoc {w w' : World} {B : Nat} {o : Obj} {v v' u : Value} {L : Pic} {l : List CV} {us : List Value} (hl : us.length = L.length)
    (hr : ∀ i, i < L.length → Rc w (us.getD i undef) (L.getD i []) ∧ ∀ k, inB (us.getD i undef) k → B ≤ k ∧ k < w.heap.size ∧ some k ≠ v.ownBlock ∧ Frz w k)
    (hu : Rc w u l) (hk : ∀ k, inB u k → B ≤ k ∧ k < w.heap.size ∧ some k ≠ v.ownBlock ∧ Frz w k)
    (hown : w'.ownsRow B 40 1 v' (L.length + 1) (us ++ [u])) (hg : (w.alloc o).grownBy w' v.ownBlock) (hat : ∀ k, v'.ownBlock = some k → v.ownBlock = some k ∨ w.heap.size ≤ k) : OP w' B v' (L ++ [l]) := by
  have hs : w.heap.size ≤ w'.heap.size := Nat.le_trans (by simp) hg.size
  have step : ∀ x : Value, ∀ y : List CV, Rc w x y → (∀ k, inB x k → B ≤ k ∧ k < w.heap.size ∧ some k ≠ v.ownBlock ∧ Frz w k) → Rc w' x y ∧ ∀ k, inB x k → B ≤ k ∧ k < w'.heap.size ∧ some k ≠ v'.ownBlock ∧ Frz w' k := by
    intro x y h1 h2
    refine ⟨h1.move fun k hk hlt => ?_, fun k hk => ?_⟩
    · rw [hg.block k (by simp; omega) (h2 k hk).2.2.1, Below.heap_alloc _ _ _ hlt]
    · obtain ⟨b1, b2, b3, b4⟩ := h2 k hk
      refine ⟨b1, by omega, fun e => ?_, b4.move ?_⟩
      · rcases hat k e.symm with h | h
        · exact b3 h.symm
        · omega
      · rw [hg.block k (by simp; omega) b3, Below.heap_alloc _ _ _ b2]
  refine ⟨us ++ [u], by simp [hl], by rw [List.length_append]; exact hown, fun i hi => ?_⟩
  rw [getD_snoc, getD_snoc, hl]
  by_cases h : i < L.length
  · rw [if_pos h, if_pos h]
    exact step _ _ (hr i h).1 (hr i h).2
  · have : i = L.length := by simp at hi; omega
    rw [if_neg h, if_neg h, if_pos this, if_pos this]
    exact step _ _ hu hk
theorem oc_in {w : World} {B : Nat} {u : Value} {l : List CV} (h : Oc w B u l) (k : Nat) (hk : inB u k) : B ≤ k ∧ k < w.heap.size ∧ Frz w k := by
  obtain ⟨off, n, c, rfl⟩ := hk
  have h0 := h
  rcases h.2 with ⟨e, _⟩ | ⟨g, cap, cur, e, hb, hg, _⟩
  · cases e
  · cases e
    exact ⟨hb, lt_of_heap hg, fun j => own_frozen h0 j⟩
theorem infoR : (Try.prog.info? 40).map (fun i => (i.zero, i.size, i.bytes)) = some (some (.slice none 0 0), 1, 24) := by kernel_rfl
theorem cells_row (w : World) (x : Value) (e : Nat) : ∀ j u, ([x] : List Value)[j]? = some u → (w.alloc (.cells #[x] e)).cell? ((⟨w.heap.size, 0, none⟩ : Addr).add j) = some u := by
  intro j u hu
  cases j with
  | zero => simp at hu; subst hu; rw [Addr.add_lit]; simp
  | succ j => simp at hu
/-- is a picture one? -/
def picB (L : Pic) : Bool := decide (4 ≤ L.length ∧ L.length ≤ 64) && decide (L.length % 4 = 0) && L.all fun l => rowB l && decide (l.length = (L.getD 0 []).length)
/-- every other row from the k-th on -/
def fld (L : Pic) (k : Nat) : Pic := (List.range ((L.length - k + 1) / 2)).map fun i => L.getD (k + 2 * i) []
end Go.Proofs.Ytbjllfnjecggfaa
