/- The cursor under steps that leave its block and the code alone. -/
import Derived.Test.YtbjllfnjecggfaaUh
namespace Go.Proofs.Ytbjllfnjecggfaa
open Go.RowKit
theorem Only.of_grown {w w' : World} {row : Option Nat} (h : w.grownBy w' row) : Only (fun k => some k = row) w w' := ⟨h.os, h.tape, h.output, h.size, fun k hk hn => h.block k hk hn⟩
theorem Only.wide {S S' : Nat → Prop} {w w' : World} (h : Only S w w') (hS : ∀ k, S k → S' k) : Only S' w w' := ⟨h.os, h.tape, h.output, h.size, fun k hk hn => h.block k hk (fun hs => hn (hS k hs))⟩
theorem Cur.keep {B g : Nat} {S : Nat → Prop} {a : Option Addr} {n cap : Nat} {w w' : World} (h : Cur B w g a n cap) (ho : Only S w w') (hg : ¬ S g) (hS : ∀ k, S k → B ≤ k) : Cur B w' g a n cap := by
  have hlt := h.lt
  obtain ⟨⟨i, y, h0, h1, c0, c1, c2, hf⟩, hb, hBg, hn⟩ := h
  have hl : ∀ p : Addr, p.block = g → w'.cell? p = w.cell? p := fun p hp => World.cell?_of_block (w := w) (w' := w') (a := p) (by rw [hp]; exact ho.block g hlt hg)
  refine ⟨⟨i, y, h0, h1, (hl _ rfl).trans c0, (hl _ rfl).trans c1, (hl _ rfl).trans c2, fun k => ?_⟩, fun j hj => ?_, hBg, hn⟩
  · exact (World.frozen?_of_block (w := w) (w' := w') (a := ⟨g, k, none⟩) (ho.block g hlt hg)).trans (hf k)
  · obtain ⟨b, off, x, e, hb', x0, x1, hc⟩ := hb j hj
    refine ⟨b, off, x, e, hb', x0, x1, ?_⟩
    rw [World.cell?_of_block (w := w) (w' := w') (a := ⟨b, off + j, none⟩) (ho.block b (World.block_lt_of_cell? _ _ hc) (fun hs => by have := hS b hs; omega))]
    exact hc
end Go.Proofs.Ytbjllfnjecggfaa
