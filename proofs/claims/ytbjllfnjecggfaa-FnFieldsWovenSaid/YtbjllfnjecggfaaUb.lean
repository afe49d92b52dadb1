/- Walks: the drawing of arguments: a number below another; once in a while. -/
import Derived.Test.YtbjllfnjecggfaaUa
namespace Go.Proofs.Ytbjllfnjecggfaa
open Go.RowKit

theorem By.only {B g : Nat} {w w' : World} {a : Option Addr} {n : Nat} (h : By B w a n) (ho : Only (fun j => g = j) w w') (hg : B ≤ g) : By B w' a n := by
  intro j hj
  obtain ⟨b, off, x, e, hb, h0, h1, hc⟩ := h j hj
  refine ⟨b, off, x, e, hb, h0, h1, ?_⟩
  rw [World.cell?_of_block (w := w) (w' := w') (a := ⟨b, off + j, none⟩) (ho.block b (World.block_lt_of_cell? _ _ hc) (by omega))]
  exact hc
/-- the cursor as a whole: where it lies, what it reads -/
def Cur (B : Nat) (w : World) (g : Nat) (a : Option Addr) (n cap : Nat) : Prop := Cu w g a n cap ∧ By B w a n ∧ B ≤ g ∧ n ≤ 1048576
/-- a draw: a whole number within bounds, and the cursor goes on -/
def DrPost (B : Nat) (w : World) (g : Nat) (a : Option Addr) (n cap : Nat) (lo hi : Int) (e : Ending) (w' : World) : Prop :=
  ∃ x : Int, e = .returned (.int .i64 x) ∧ lo ≤ x ∧ x ≤ hi ∧ Cur B w' g a n cap ∧ Only (fun j => g = j) w w'
theorem byteD {B g : Nat} {a : Option Addr} {n cap : Nat} {w : World} (h : Cur B w g a n cap) : Calls Try.prog 129 #[.pointer (some ⟨g, 0, none⟩)] w (DrPost B w g a n cap 0 255) :=
  (byte_any B g a n cap w h.1 h.2.1 h.2.2.1 h.2.2.2).mono fun _ _ ⟨x, x0, x1, he, hc, ho⟩ => ⟨x, he, x0, x1, ⟨hc, h.2.1.only ho h.2.2.1, h.2.2.1, h.2.2.2⟩, ho⟩
theorem Cur.drewN {B g : Nat} {a : Option Addr} {n cap : Nat} {w : World} (h : Cur B w g a n cap) (m : Nat) : Cur B (w.drewN m) g a n cap := h

set_option maxRecDepth 100000 in
set_option maxHeartbeats 1000000 in
theorem below_any (B g : Nat) (a : Option Addr) (n cap : Nat) (m : Int) (w : World) (h : Cur B w g a n cap) (h0 : -9223372036854775808 ≤ m) (h1 : m ≤ 9223372036854775807) :
    Calls Try.prog 95 #[.pointer (some ⟨g, 0, none⟩), .int .i64 m] w (DrPost B w g a n cap 0 (if m ≤ 0 then 0 else m - 1)) := by
  have HC := Lib.hid h
  clear h
  by_cases hm : m ≤ 0
  · rw [if_pos hm]
    go_enter Try.func95, Try.ntmps95
    go_wp2
    go_ret
    exact ⟨0, rfl, by omega, by omega, HC.out, Only.refl _ _⟩
  · rw [if_neg hm]
    by_cases h256 : m ≤ 256
    · go_enter Try.func95, Try.ntmps95
      go_wp2_with (go_at_call 129; refine (byteD HC.out).mono ?_; rintro e w1 ⟨x, rfl, x0, x1, hc, ho⟩; have HC1 := Lib.hid hc; clear hc)
      go_ret
      exact ⟨_, rfl, Int.emod_nonneg _ (by omega), Int.le_sub_one_of_lt (Int.emod_lt_of_pos _ (by omega)), HC1.out, ho⟩
    · have HO : Only (fun j => g = j) w w := Only.refl _ _
      go_enter Try.func95, Try.ntmps95
      go_wp2_with (go_at_call 129; refine (byteD HC.out).mono ?_; rintro e w1 ⟨x, rfl, x0, x1, hc, ho⟩; clear HC; have HC := Lib.hid hc; clear hc; replace HO := HO.trans ho; clear ho)
      go_ret
      exact ⟨_, rfl, Int.emod_nonneg _ (by omega), Int.le_sub_one_of_lt (Int.emod_lt_of_pos _ (by omega)), HC.out, HO⟩
theorem Cur.two {B g : Nat} {a : Option Addr} {n cap : Nat} {w : World} (h : Cur B w g a n cap) : B ≤ g := h.2.2.1
/-- a draw of a yes or no -/
def DbPost (B : Nat) (w : World) (g : Nat) (a : Option Addr) (n cap : Nat) (e : Ending) (w' : World) : Prop :=
  ∃ b : Bool, e = .returned (.bool b) ∧ Cur B w' g a n cap ∧ Only (fun j => g = j) w w'
set_option maxRecDepth 100000 in
theorem once_any (B g : Nat) (a : Option Addr) (n cap : Nat) (m : Int) (w : World) (h : Cur B w g a n cap) (h0 : -9223372036854775808 ≤ m) (h1 : m ≤ 9223372036854775807) :
    Calls Try.prog 110 #[.pointer (some ⟨g, 0, none⟩), .int .i64 m] w (DbPost B w g a n cap) := by
  have HC := Lib.hid h
  clear h
  go_enter Try.func110, Try.ntmps110
  go_wp2_with (go_at_call 95; refine (below_any B g a n cap m _ HC.out h0 h1).mono ?_; rintro e w1 ⟨x, rfl, x0, x1, hc, ho⟩; clear x0 x1)
  go_ret
  exact ⟨_, rfl, hc, ho⟩
end Go.Proofs.Ytbjllfnjecggfaa
