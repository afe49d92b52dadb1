/- Arguments opened: a slice of bytes that came in. -/
import Derived.Test.YtbjllfnjecggfaaUe
import Derived.ProofKit
import Derived.OpenShut
import Derived.Deep.Slices
namespace Go.Proofs.Ytbjllfnjecggfaa
open Go.ChangeShapes Go.WideShapes Go.ChangeAt Go.RowKit Go.Deep

theorem open_bytes {H : Type} {enc : TypeId × Value → H} {w : World} {base : Nat} {spare : Nat → Bool} {held : Bool} {a : Option Addr} {len cap : Nat} {d : DataW H} {ps : List MemPlace}
    (h : DataW.Trod enc Try.prog w base spare held 31 (.slice a len cap) d ps) : ∃ _z : Nat, By w.heap.size w a len := by
  refine ⟨0, ?_⟩
  obtain ⟨fuel, hf⟩ := h
  rcases open_slice1 Try.underlying31 (by kernel_rfl) hf with ⟨hcs, _⟩ | ⟨x, l, c, m, n, V, D, Pl, hcs, _, hl, hm, hmm, _, hx⟩
  · simp [Value.cells] at hcs
    obtain ⟨rfl, rfl, rfl⟩ := hcs
    intro j hj; omega
  · simp [Value.cells] at hcs
    obtain ⟨rfl, rfl, rfl⟩ := hcs
    have hlm : len ≤ m := by rw [hmm]; split <;> omega
    intro i hi
    obtain ⟨h1, h2⟩ := hx i (by omega)
    cases n with
    | zero => simp [DataW.trod] at h2
    | succ n =>
      simp only [DataW.trod, Try.underlying5] at h2
      cases hv : V i <;> simp [hv] at h2
      rename_i k b
      obtain ⟨⟨rfl, hwf⟩, _⟩ := h2
      obtain ⟨b', off, spot⟩ := x
      have hspot : spot = none := by simpa [Addr.add] using World.cell?_spot (hx 0 (by omega)).1
      subst hspot
      rw [Addr.add_lit, hv] at h1
      have hr : (0 : Int) ≤ b ∧ b < 256 := by
        simp only [Lit.wf, IntKind.min, IntKind.max, IntKind.signed, IntKind.bits, Bool.and_eq_true] at hwf
        obtain ⟨q1, q2⟩ := hwf
        simp at q1 q2
        omega
      exact ⟨b', off, b, rfl, World.block_lt_of_cell? _ _ h1, hr.1, hr.2, h1⟩
end Go.Proofs.Ytbjllfnjecggfaa
