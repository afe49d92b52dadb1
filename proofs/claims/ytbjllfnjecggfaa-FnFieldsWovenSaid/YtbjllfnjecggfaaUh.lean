/- Walks: the drawing of arguments: l02Cell (under way). -/
import Derived.Test.YtbjllfnjecggfaaUg
import Derived.Test.YtbjllfnjecggfaaMc
namespace Go.Proofs.Ytbjllfnjecggfaa
open Go.RowKit
def DcPost (B : Nat) (w : World) (g : Nat) (a : Option Addr) (n cap : Nat) (e : Ending) (w' : World) : Prop :=
  ∃ x y z : Nat, e = .returned (.agg #[.float .f32 x, .complex .f32 y z]) ∧ Cur B w' g a n cap ∧ Only (fun j => g = j) w w'
theorem Only.setNew {S : Nat → Prop} {a w : World} (h : Only S a w) {p : Addr} (hp : a.heap.size ≤ p.block) (u : Value) : Only S a (w.setCell p u) :=
  ⟨h.os, h.tape, h.output, Nat.le_trans h.size (by simp), fun k hk hs => (Below.heap_setCell w p u k (by omega)).trans (h.block k hk hs)⟩
theorem Cur.setOther {B g : Nat} {a : Option Addr} {n cap : Nat} {w : World} (h : Cur B w g a n cap) {p : Addr} (u : Value) (hp : p.block ≠ g) (hpB : B ≤ p.block) : Cur B (w.setCell p u) g a n cap := by
  obtain ⟨⟨i, y, h0, h1, c0, c1, c2, hf⟩, hb, hg, hn⟩ := h
  have hl : ∀ q : Addr, q.block ≠ p.block → (w.setCell p u).cell? q = w.cell? q := fun q hq => World.cell?_of_block (w := w) (w' := w.setCell p u) (a := q) (Below.heap_setCell w p u q.block hq)
  refine ⟨⟨i, y, h0, h1, (hl _ (fun e => hp e.symm)).trans c0, (hl _ (fun e => hp e.symm)).trans c1, (hl _ (fun e => hp e.symm)).trans c2, fun k => (World.frozen?_setCell _ _ _ _).trans (hf k)⟩, fun j hj => ?_, hg, hn⟩
  obtain ⟨b, off, x, e, hb', x0, x1, hc⟩ := hb j hj
  exact ⟨b, off, x, e, hb', x0, x1, (hl ⟨b, off + j, none⟩ (by show b ≠ p.block; omega)).trans hc⟩
set_option maxRecDepth 100000 in
set_option maxHeartbeats 1000000 in
theorem cell_any (B g : Nat) (a : Option Addr) (n cap : Nat) (w : World) (h : Cur B w g a n cap) :
    Calls Try.prog 90 #[.pointer (some ⟨g, 0, none⟩)] w (DcPost B w g a n cap) := by
  have HC := Lib.hid h
  clear h
  go_enter Try.func90, Try.ntmps90
  have hlt := HC.out.lt
  have keep : ∀ (w1 w2 : World) (j : Nat), Only (fun j => g = j) w1 w2 → w.heap.size < w1.heap.size → w2.cell? ⟨w.heap.size, j, none⟩ = w1.cell? ⟨w.heap.size, j, none⟩ ∧ w2.frozen? ⟨w.heap.size, j, none⟩ = w1.frozen? ⟨w.heap.size, j, none⟩ := fun w1 w2 j ho hs =>
    ⟨World.cell?_of_block (a := ⟨w.heap.size, j, none⟩) (ho.block w.heap.size hs (by omega)), World.frozen?_of_block (a := ⟨w.heap.size, j, none⟩) (ho.block w.heap.size hs (by omega))⟩
  go_wp2_with fail
  refine (level_any B g a n cap _ (HC.out.alloc hlt _)).mono ?_
  rintro e w1 ⟨x, rfl, hc, ho⟩
  have HC1 := Lib.hid hc
  have k0 := keep _ _ 0 ho (by simp)
  have k1 := keep _ _ 1 ho (by simp)
  have s1 := ho.size
  have HO := Lib.hid (((Only.refl _ w).alloc _).trans ho)
  clear HC hc ho
  simp at k0 k1 s1
  go_wp2_with fail
  refine (level_any B g a n cap _ HC1.out).mono ?_
  rintro e w2 ⟨y, rfl, hc, ho⟩
  have m0 := keep _ _ 0 ho (by omega)
  have m1 := keep _ _ 1 ho (by omega)
  have s2 := ho.size
  rw [k0.1, k0.2] at m0
  rw [k1.1, k1.2] at m1
  replace HO := Lib.hid (HO.out.trans ho)
  have HC2 := Lib.hid hc
  clear HC1 hc ho k0 k1
  go_wp2_with fail
  refine (level_any B g a n cap _ HC2.out).mono ?_
  rintro e w3 ⟨z, rfl, hc, ho⟩
  have k0 := keep _ _ 0 ho (by omega)
  have k1 := keep _ _ 1 ho (by omega)
  rw [m0.1, m0.2] at k0
  rw [m1.1, m1.2] at k1
  replace HO := Lib.hid (HO.out.trans ho)
  have HC3 := Lib.hid hc
  clear HC2 hc ho m0 m1
  obtain ⟨c0, f0⟩ := k0
  obtain ⟨c1, f1⟩ := k1
  go_wp2_with fail
  refine bodyPost_ret (results_cellC rfl _ _ rfl (set2 _ _ c0 c1).1 (set2 _ _ c0 c1).2) rfl ⟨_, _, _, rfl, ?_, ?_⟩
  · exact (HC3.out.setOther _ (by show w.heap.size ≠ g; omega) (by show B ≤ w.heap.size; have := HC3.out.two; omega)).setOther _ (by show w.heap.size ≠ g; omega) (by show B ≤ w.heap.size; have := HC3.out.two; omega)
  · exact (HO.out.setNew (p := ⟨w.heap.size, 0, none⟩) (Nat.le_refl _) _).setNew (p := ⟨w.heap.size, 1, none⟩) (Nat.le_refl _) _
end Go.Proofs.Ytbjllfnjecggfaa
