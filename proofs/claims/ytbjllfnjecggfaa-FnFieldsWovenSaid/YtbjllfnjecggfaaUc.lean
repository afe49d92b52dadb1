/- Walks: the drawing of arguments: one of a list of numbers; a number. -/
import Derived.Test.YtbjllfnjecggfaaUb
namespace Go.Proofs.Ytbjllfnjecggfaa
open Go.RowKit

theorem DrPost.wide {B : Nat} {w : World} {g : Nat} {a : Option Addr} {n cap : Nat} {lo hi lo' hi' : Int} {e : Ending} {w' : World} (h : DrPost B w g a n cap lo hi e w') (h0 : lo' ≤ lo) (h1 : hi ≤ hi') : DrPost B w g a n cap lo' hi' e w' := by
  obtain ⟨x, he, x0, x1, h2⟩ := h
  exact ⟨x, he, by omega, by omega, h2⟩
theorem Cur.alloc {B g : Nat} {a : Option Addr} {n cap : Nat} {w : World} (h : Cur B w g a n cap) (hB : g < w.heap.size) (o : Obj) : Cur B (w.alloc o) g a n cap := by
  obtain ⟨⟨i, y, h0, h1, c0, c1, c2, hf⟩, hb, hg, hn⟩ := h
  have hl : ∀ p : Addr, p.block < w.heap.size → (w.alloc o).cell? p = w.cell? p := fun p hp => World.cell?_of_block (w := w) (w' := w.alloc o) (a := p) (Below.heap_alloc _ _ _ hp)
  refine ⟨⟨i, y, h0, h1, (hl _ hB).trans c0, (hl _ hB).trans c1, (hl _ hB).trans c2, fun k => ?_⟩, fun j hj => ?_, hg, hn⟩
  · exact (World.frozen?_of_block (w := w) (w' := w.alloc o) (a := ⟨g, k, none⟩) (Below.heap_alloc _ _ _ hB)).trans (hf k)
  · obtain ⟨b, off, x, e, hb', x0, x1, hc⟩ := hb j hj
    exact ⟨b, off, x, e, hb', x0, x1, (hl _ (World.block_lt_of_cell? _ _ hc)).trans hc⟩
theorem Only.alloc {S : Nat → Prop} {w w' : World} (h : Only S w w') (o : Obj) : Only S w (w'.alloc o) :=
  h.trans ⟨rfl, rfl, rfl, by simp, fun k hk _ => Below.heap_alloc _ _ _ hk⟩

set_option maxRecDepth 100000 in
theorem pick_any (B g : Nat) (a : Option Addr) (n cap : Nat) (bl L : Nat) (w : World) (h : Cur B w g a n cap) (hL : 0 < L) (hL2 : L ≤ 1000) (hbl : bl ≠ g)
    (hl : ∀ j, j < L → ∃ x : Int, -9223372036854775808 ≤ x ∧ x ≤ 9223372036854775807 ∧ w.cell? ⟨bl, j, none⟩ = some (.int .i64 x)) :
    Calls Try.prog 116 #[.pointer (some ⟨g, 0, none⟩), .slice (some ⟨bl, 0, none⟩) L L] w (DrPost B w g a n cap (-9223372036854775808) 9223372036854775807) := by
  have HC := Lib.hid h
  have HL := Lib.hid hl
  clear h hl
  go_enter Try.func116, Try.ntmps116
  go_wp2_with (go_at_call 95; refine (below_any B g a n cap L _ HC.out (by omega) (by omega)).mono ?_; rintro e w1 ⟨x, rfl, x0, x1, hc, ho⟩; rw [if_neg (by omega)] at x1; obtain ⟨y, y0, y1, hy⟩ := HL.out x.toNat (by omega); have hy1 := (World.cell?_of_block (w := w) (w' := w1) (a := ⟨bl, x.toNat, none⟩) (ho.block bl (World.block_lt_of_cell? _ _ hy) (fun e => hbl e.symm))).trans hy; have HC1 := Lib.hid hc; have HO := Lib.hid ho; clear hc ho hy)
  go_ret
  exact ⟨_, rfl, y0, y1, HC1.out, HO.out⟩
end Go.Proofs.Ytbjllfnjecggfaa
