/- Walks: the draw of one of a list of texts; the draw of a text of thousandths. -/
import Derived.Test.YtpdpkgpjgockaaaDoorUkT
import Derived.Test.YtpdpkgpjgockaaaDoorBs
import Derived.Test.YtpdpkgpjgockaaaDoorVf
namespace Go.Proofs.YtpdpkgpjgockaaaDoor
open Go.RowKit
theorem Cur.below {B g : Nat} {a : Option Addr} {n cap : Nat} {w w' : World} (h : Cur B w g a n cap) (hb : Below w.heap.size w w') (hB : B ≤ w.heap.size) : Cur B w' g a n cap :=
  h.keep (Only.of_below hb) (fun hs => by have := h.lt; omega) (fun k hk => by omega)
set_option maxRecDepth 100000 in
theorem pickS_any (B g : Nat) (a : Option Addr) (n cap : Nat) (bl L : Nat) (w : World) (h : Cur B w g a n cap) (hL : 0 < L) (hL2 : L ≤ 1000) (hbl : bl ≠ g)
    (hl : ∀ j, j < L → ∃ s : ByteArray, s.size ≤ 100 ∧ w.cell? ⟨bl, j, none⟩ = some (.string s)) :
    Calls Tryd.prog 44 #[.pointer (some ⟨g, 0, none⟩), .slice (some ⟨bl, 0, none⟩) L L] w fun e w' => ∃ s : ByteArray, e = .returned (.string s) ∧ s.size ≤ 100 ∧ Cur B w' g a n cap ∧ Only (fun j => g = j) w w' := by
  have HC := Lib.hid h
  have HL := Lib.hid hl
  clear h hl
  go_enter Tryd.func44, Tryd.ntmps44
  go_wp2_with (go_at_call 38; refine (below_any B g a n cap L _ HC.out (by omega) (by omega)).mono ?_; rintro e w1 ⟨x, rfl, x0, x1, hc, ho⟩; rw [if_neg (by omega)] at x1; obtain ⟨s, hs, hy⟩ := HL.out x.toNat (by omega); have hy1 := (World.cell?_of_block (w := w) (w' := w1) (a := ⟨bl, x.toNat, none⟩) (ho.block bl (World.block_lt_of_cell? _ _ hy) (fun e => hbl e.symm))).trans hy; have HC1 := Lib.hid hc; have HO := Lib.hid ho; clear hc ho hy)
  go_ret
  exact ⟨s, rfl, hs, HC1.out, HO.out⟩
theorem cells_strs (w : World) (ss : List ByteArray) (t : TypeId) (hz : ∀ s ∈ ss, s.size ≤ 100) :
    ∀ j, j < ss.length → ∃ s : ByteArray, s.size ≤ 100 ∧ (w.alloc (.cells (ss.map Value.string).toArray t)).cell? ⟨w.heap.size, j, none⟩ = some (.string s) := by
  intro j hj
  refine ⟨ss[j], hz _ (List.getElem_mem hj), ?_⟩
  simp [hj]
end Go.Proofs.YtpdpkgpjgockaaaDoor
