/- Arguments opened: a slice of singles that came in reads as a list of bits. -/
import Derived.Test.YtbjllfnjecggfaaMem
import Derived.Test.YtbjllfnjecggfaaCl
import Derived.ProofKit
import Derived.OpenShut
import Derived.Deep.Slices
namespace Go.Proofs.Ytbjllfnjecggfaa
open Go.ChangeShapes Go.WideShapes Go.ChangeAt Go.RowKit Go.Deep

theorem open_floats {H : Type} {enc : TypeId × Value → H} {w : World} {base : Nat} {spare : Nat → Bool} {held : Bool} {a : Option Addr} {len cap : Nat} {d : DataW H} {ps : List MemPlace}
    (h : DataW.Trod enc Try.prog w base spare held 22 (.slice a len cap) d ps) : ∃ zs, Rf w (.slice a len cap) zs := by
  obtain ⟨fuel, hf⟩ := h
  rcases open_slice1 Try.underlying22 (by kernel_rfl) hf with ⟨hcs, _⟩ | ⟨x, l, c, m, n, V, D, Pl, hcs, _, hl, hm, hmm, _, hx⟩
  · simp [Value.cells] at hcs
    obtain ⟨rfl, rfl, rfl⟩ := hcs
    exact ⟨[], .inl ⟨_, _, rfl, rfl⟩⟩
  · simp [Value.cells] at hcs
    obtain ⟨rfl, rfl, rfl⟩ := hcs
    have hlm : len ≤ m := by rw [hmm]; split <;> omega
    have each : ∀ i, i < len → ∃ b, V i = .float .f32 b ∧ w.cell? (x.add i) = some (.float .f32 b) := by
      intro i hi
      obtain ⟨h1, h2⟩ := hx i (by omega)
      cases n with
      | zero => simp [DataW.trod] at h2
      | succ n =>
        simp only [DataW.trod, Try.underlying36] at h2
        cases hv : V i <;> simp [hv] at h2
        rename_i k b
        obtain ⟨⟨rfl, _⟩, _⟩ := h2
        exact ⟨b, rfl, by rw [h1, hv]⟩
    rcases Nat.eq_zero_or_pos len with h0 | h0
    · subst h0; exact ⟨[], .inl ⟨_, _, rfl, rfl⟩⟩
    · obtain ⟨b0, _, hc0⟩ := each 0 h0
      obtain ⟨b, off, spot⟩ := x
      have hspot : spot = none := by simpa [Addr.add] using World.cell?_spot hc0
      subst hspot
      let f : Nat → Nat := fun i => match V i with | .float _ b => b | _ => 0
      have hlen : ((List.range len).map f).length = len := by simp
      refine ⟨(List.range len).map f, .inr ⟨b, off, cap, by rw [List.length_map, hlen], by rw [List.length_map, hlen]; exact hl, hm, fun j hj => ?_⟩⟩
      rw [List.length_map, hlen] at hj
      obtain ⟨c, hv, hc⟩ := each j hj
      rw [Addr.add_lit] at hc
      rw [hc]
      simp [List.getD, hj, f, hv]
end Go.Proofs.Ytbjllfnjecggfaa
