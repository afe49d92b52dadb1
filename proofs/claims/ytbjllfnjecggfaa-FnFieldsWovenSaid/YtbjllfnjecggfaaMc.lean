/- Words for cells: a slice of cells that reads as a list of bits; a row of the call's own; what is the same, NaN's bits aside. -/
import Derived.Test.YtbjllfnjecggfaaWi
namespace Go.Proofs.Ytbjllfnjecggfaa
open Go.RowKit

abbrev CV := Nat × Nat × Nat
abbrev FV := Option Nat × Option Nat × Option Nat
def fvc (c : CV) : FV := (Fl.fv .f32 c.1, Fl.fv .f32 c.2.1, Fl.fv .f32 c.2.2)
def cells (l : List CV) : List Value := l.flatMap fun c => [.float .f32 c.1, .complex .f32 c.2.1 c.2.2]
abbrev aggC (c : CV) : Value := .agg #[.float .f32 c.1, .complex .f32 c.2.1 c.2.2]
abbrev c0 : CV := (0, 0, 0)

theorem cells_len (l : List CV) : (cells l).length = l.length * 2 := by
  unfold cells; induction l with
  | nil => rfl
  | cons c l ih => simp only [List.flatMap_cons, List.length_append, List.length_cons, List.length_nil, ih]; omega
theorem cells_at (l : List CV) : ∀ j, j < l.length → (cells l)[j * 2]? = some (.float .f32 (l.getD j c0).1) ∧ (cells l)[j * 2 + 1]? = some (.complex .f32 (l.getD j c0).2.1 (l.getD j c0).2.2) := by
  induction l with
  | nil => intro j h; simp at h
  | cons c l ih =>
    intro j h
    cases j with
    | zero => exact ⟨rfl, rfl⟩
    | succ j =>
      have := ih j (by simpa using h)
      have e : (j + 1) * 2 = j * 2 + 2 := by omega
      rw [e]
      exact this
theorem cells_append (a b : List CV) : cells (a ++ b) = cells a ++ cells b := by simp [cells]
theorem cells_one_cell (l : List CV) : ∀ u ∈ cells l, u.oneCell' = true := by
  intro u hu
  unfold cells at hu
  rw [List.mem_flatMap] at hu
  obtain ⟨c, _, h⟩ := hu
  simp at h
  rcases h with rfl | rfl <;> rfl

/-- 'v' is a slice of cells that reads as 'l' -/
def Rc (w : World) (v : Value) (l : List CV) : Prop :=
  (∃ o cap, v = .slice o 0 cap ∧ l = []) ∨
  ∃ b off cap, v = .slice (some ⟨b, off, none⟩) l.length cap ∧ l.length ≤ cap ∧ cap ≤ maxLen ∧ ∀ j, j < l.length → w.cell? ⟨b, off + j * 2, none⟩ = some (.float .f32 (l.getD j c0).1) ∧ w.cell? ⟨b, off + j * 2 + 1, none⟩ = some (.complex .f32 (l.getD j c0).2.1 (l.getD j c0).2.2)
theorem Rc.below {w w' : World} {v : Value} {l : List CV} (h : Rc w v l) (hb : Below w.heap.size w w') : Rc w' v l := by
  rcases h with h | ⟨b, off, cap, h1, h2, h3, h4⟩
  · exact .inl h
  · refine .inr ⟨b, off, cap, h1, h2, h3, fun j hj => ?_⟩
    obtain ⟨e1, e2⟩ := h4 j hj
    rw [hb.cell (p := ⟨b, off + j * 2, none⟩) (World.block_lt_of_cell? _ _ e1), hb.cell (p := ⟨b, off + j * 2 + 1, none⟩) (World.block_lt_of_cell? _ _ e2)]
    exact ⟨e1, e2⟩
theorem Rc.form {w : World} {v : Value} {l : List CV} (h : Rc w v l) : ∃ a c, v = .slice a l.length c := by
  rcases h with ⟨o, c, rfl, rfl⟩ | ⟨b, off, cap, rfl, _⟩
  · exact ⟨o, c, rfl⟩
  · exact ⟨_, cap, rfl⟩
/-- a row of cells of the call's own -/
def Oc (w : World) (B : Nat) (v : Value) (l : List CV) : Prop := w.ownsRow B 48 2 v l.length (cells l)
theorem Oc.below {w w' : World} {B : Nat} {v : Value} {l : List CV} (h : Oc w B v l) (hb : Below w.heap.size w w') : Oc w' B v l := own_below h hb
theorem Oc.rc {w : World} {B : Nat} {v : Value} {l : List CV} (h : Oc w B v l) : Rc w v l := by
  rcases h.2 with ⟨rfl, h0⟩ | ⟨g, cap, cur, rfl, _, hg, hn, hm, _, ht⟩
  · exact .inl ⟨_, _, rfl, List.eq_nil_of_length_eq_zero h0⟩
  · refine .inr ⟨g, 0, cap, rfl, hn, hm, fun j hj => ?_⟩
    obtain ⟨e1, e2⟩ := cells_at l j hj
    have h1 := World.ownsRow.cells h (g := g) rfl (j * 2) _ e1
    have h2 := World.ownsRow.cells h (g := g) rfl (j * 2 + 1) _ e2
    rw [Addr.add_lit] at h1 h2
    exact ⟨h1, by rw [Nat.add_assoc]; exact h2⟩
theorem Oc.only {w w' : World} {B : Nat} {u v : Value} {l : List CV} (h : Oc w B v l) (ho : Only (fun j => u.ownBlock = some j) w w') {a b c d : Nat} (hu : At u a b) (hv : At v c d) (hd : b ≤ c ∨ d ≤ a) : Oc w' B v l :=
  ho.kept h fun k hk e => by have h1 := hu k e; have h2 := hv k hk; omega
theorem info48 : (Try.prog.info? 48).map (fun i => (i.zero, i.size, i.bytes)) = some (some (.agg #[.float .f32 0, .complex .f32 0 0]), 2, 12) := by kernel_rfl
theorem oc_snoc {w1 : World} {B : Nat} {v' : Value} {l : List CV} {c : CV} (h : w1.ownsRow B 48 2 v' (l.length + 1) (cells l ++ [.float .f32 c.1, .complex .f32 c.2.1 c.2.2])) : Oc w1 B v' (l ++ [c]) := by
  unfold Oc; rw [List.length_append, cells_append]; exact h
@[go_sem] theorem buildC (a b c : Nat) (w : World) : (Instr.build 48 #[(0, .float .f32 a), (1, .complex .f32 b c)]).run Try.prog w = .ok (.agg #[.float .f32 a, .complex .f32 b c]) w := run_build w 48 _ _ (by kernel_rfl)

theorem set2 {w1 : World} {g : Nat} {x y : Value} (a b : Value) (h0 : w1.cell? ⟨g, 0, none⟩ = some x) (h1 : w1.cell? ⟨g, 1, none⟩ = some y) :
    ((w1.setCell ⟨g, 0, none⟩ a).setCell ⟨g, 1, none⟩ b).cell? ⟨g, 0, none⟩ = some a ∧ ((w1.setCell ⟨g, 0, none⟩ a).setCell ⟨g, 1, none⟩ b).cell? ⟨g, 1, none⟩ = some b := by
  have e1 : (w1.setCell ⟨g, 0, none⟩ a).cell? ⟨g, 1, none⟩ = some y := (World.cell?_setCell_other _ _ _ _ (by simp)).trans h1
  exact ⟨(World.cell?_setCell_other _ _ _ _ (by simp)).trans (World.cell?_setCell_same _ _ _ h0), World.cell?_setCell_same _ _ _ e1⟩
/-- a result that lies in a cell variable -/
theorem results_cellC {fn : Func} {p : Tmp} (h : fn.results = #[.cell p 48]) (tmps : Array Value) (w : World) {g : Nat} {y re im : Nat} (hp : tmps.getD p undef = .pointer (some ⟨g, 0, none⟩))
    (h0 : w.cell? ⟨g, 0, none⟩ = some (.float .f32 y)) (h1 : w.cell? ⟨g, 1, none⟩ = some (.complex .f32 re im)) : (results fn tmps).run Try.prog w = .ok (.agg #[.float .f32 y, .complex .f32 re im]) w := by
  have hp' : tmps[p]?.getD undef = .pointer (some ⟨g, 0, none⟩) := by rw [← hp]; simp
  simp only [results, h]
  simp [Sem.run_bind, Result.andThen, hp', go_sem, h0, h1]
end Go.Proofs.Ytbjllfnjecggfaa
