/- Walks: the drawing of arguments: the cursor. -/
import Derived.Test.YtbjllfnjecggfaaMem
import Derived.Test.YtbjllfnjecggfaaCl
namespace Go.Proofs.Ytbjllfnjecggfaa
open Go.RowKit

/-- a slice of bytes below 'B' -/
def By (B : Nat) (w : World) (a : Option Addr) (n : Nat) : Prop := ∀ j, j < n → ∃ b off x, a = some ⟨b, off, none⟩ ∧ b < B ∧ (0 : Int) ≤ x ∧ x < 256 ∧ w.cell? ⟨b, off + j, none⟩ = some (.int .u8 x)
/-- the cursor at 'g' -/
def Cu (w : World) (g : Nat) (a : Option Addr) (n cap : Nat) : Prop := ∃ i h : Int, 0 ≤ i ∧ i ≤ n ∧ w.cell? ⟨g, 0, none⟩ = some (.slice a n cap) ∧ w.cell? ⟨g, 1, none⟩ = some (.int .i64 i) ∧ w.cell? ⟨g, 2, none⟩ = some (.int .i64 h) ∧ ∀ k, w.frozen? ⟨g, k, none⟩ = false

theorem and255 (z : Int) : 0 ≤ bits .and .i64 z 255 ∧ bits .and .i64 z 255 ≤ 255 := by
  have e : bits .and .i64 z 255 = IntKind.i64.wrap (((BitVec.ofInt 64 z) &&& (BitVec.ofInt 64 255)).toNat : Int) := rfl
  have h2 : (BitVec.ofInt 64 255).toNat = 255 := by decide
  have h : ((BitVec.ofInt 64 z) &&& (BitVec.ofInt 64 255)).toNat ≤ 255 := by rw [BitVec.toNat_and, h2]; exact Nat.and_le_right
  rw [e, IntKind.wrap_i64]
  omega
theorem Cu.hash {w : World} {g : Nat} {a : Option Addr} {n cap : Nat} (h : Cu w g a n cap) (y : Int) : Cu (w.setCell ⟨g, 2, none⟩ (.int .i64 y)) g a n cap := by
  obtain ⟨i, z, h0, h1, c0, c1, c2, hf⟩ := h
  exact ⟨i, y, h0, h1, (World.cell?_setCell_other _ _ _ _ (by simp)).trans c0, (World.cell?_setCell_other _ _ _ _ (by simp)).trans c1, World.cell?_setCell_same _ _ _ c2, fun k => (World.frozen?_setCell _ _ _ _).trans (hf k)⟩
theorem Cu.next {w : World} {g : Nat} {a : Option Addr} {n cap : Nat} (h : Cu w g a n cap) (y : Int) (h0 : 0 ≤ y) (h1 : y ≤ n) : Cu (w.setCell ⟨g, 1, none⟩ (.int .i64 y)) g a n cap := by
  obtain ⟨i, z, _, _, c0, c1, c2, hf⟩ := h
  exact ⟨y, z, h0, h1, (World.cell?_setCell_other _ _ _ _ (by simp)).trans c0, World.cell?_setCell_same _ _ _ c1, (World.cell?_setCell_other _ _ _ _ (by simp)).trans c2, fun k => (World.frozen?_setCell _ _ _ _).trans (hf k)⟩
theorem Cu.drewN {w : World} {g : Nat} {a : Option Addr} {n cap : Nat} (h : Cu w g a n cap) (m : Nat) : Cu (w.drewN m) g a n cap := h

set_option maxRecDepth 100000 in
set_option maxHeartbeats 1000000 in
theorem byte_any (B g : Nat) (a : Option Addr) (n cap : Nat) (w : World) (hC : Cu w g a n cap) (hB : By B w a n) (hg : B ≤ g) (hn : n ≤ 1048576) :
    Calls Try.prog 129 #[.pointer (some ⟨g, 0, none⟩)] w fun e w' => ∃ x : Int, 0 ≤ x ∧ x ≤ 255 ∧ e = .returned (.int .i64 x) ∧ Cu w' g a n cap ∧ Only (fun j => g = j) w w' := by
  have HCu := Lib.hid hC
  obtain ⟨i, h, hi0, hin, c0, c1, c2, hf⟩ := hC
  have f0 := hf 0
  have f1 := hf 1
  have f2 := hf 2
  have HF := Lib.hid hf
  clear hf
  by_cases hlt : i < n
  · obtain ⟨b, off, x, rfl, hb, x0, x1, hx⟩ := hB i.toNat (by omega)
    have hbg : b ≠ g := by omega
    clear hB
    have hii : off + i.toNat = off + i.toNat := rfl
    go_enter Try.func129, Try.ntmps129
    go_wp2
    go_quiet (fail)
    go_wp2
    go_quiet (fail)
    go_wp2
    go_quiet (fail)
    go_wp2
    go_ret
    exact ⟨_, (and255 _).1, (and255 _).2, rfl, by repeat (first | exact HCu.out.hash _ | refine Cu.drewN ?_ _ | refine Cu.next ?_ _ (by first | omega | (unfold wrap64; omega)) (by first | omega | (unfold wrap64; omega))), by repeat (first | exact Only.refl _ _ | refine Only.drewN ?_ _ | refine Only.setCell ?_ (p := ⟨g, 2, none⟩) rfl _ | refine Only.setCell ?_ (p := ⟨g, 1, none⟩) rfl _)⟩
  · clear hB
    have hin' : i = n := by omega
    subst hin'
    go_enter Try.func129, Try.ntmps129
    go_wp2
    go_quiet (fail)
    go_wp2
    go_quiet (fail)
    go_wp2
    go_ret
    exact ⟨_, (and255 _).1, (and255 _).2, rfl, by repeat (first | exact HCu.out.hash _ | refine Cu.drewN ?_ _), by repeat (first | exact Only.setCell (Only.refl _ _) (p := ⟨g, 2, none⟩) rfl _ | refine Only.drewN ?_ _)⟩
end Go.Proofs.Ytbjllfnjecggfaa
