/- Walks: the drawing of arguments: one of a list of numbers, told; a row of few cells. -/
import Derived.Test.YtbjllfnjecggfaaUi
namespace Go.Proofs.Ytbjllfnjecggfaa
open Go.RowKit
set_option maxRecDepth 100000 in
theorem pick_in (B g : Nat) (a : Option Addr) (n cap : Nat) (bl : Nat) (zs : List Int) (w : World) (h : Cur B w g a n cap) (hL : 0 < zs.length) (hL2 : zs.length ≤ 1000) (hbl : bl ≠ g)
    (hz : ∀ z ∈ zs, -9223372036854775808 ≤ z ∧ z ≤ 9223372036854775807) (hl : ∀ j, j < zs.length → w.cell? ⟨bl, j, none⟩ = some (.int .i64 (zs.getD j 0))) :
    Calls Try.prog 116 #[.pointer (some ⟨g, 0, none⟩), .slice (some ⟨bl, 0, none⟩) zs.length zs.length] w fun e w' => ∃ j, j < zs.length ∧ e = .returned (.int .i64 (zs.getD j 0)) ∧ Cur B w' g a n cap ∧ Only (fun j => g = j) w w' := by
  have HC := Lib.hid h
  have HL := Lib.hid hl
  have HZ := Lib.hid hz
  clear h hl hz
  go_enter Try.func116, Try.ntmps116
  go_wp2_with (go_at_call 95; refine (below_any B g a n cap zs.length _ HC.out (by omega) (by omega)).mono ?_; rintro e w1 ⟨x, rfl, x0, x1, hc, ho⟩; rw [if_neg (by omega)] at x1; have hy := HL.out x.toNat (by omega); have hy1 := (World.cell?_of_block (w := w) (w' := w1) (a := ⟨bl, x.toNat, none⟩) (ho.block bl (World.block_lt_of_cell? _ _ hy) (fun e => hbl e.symm))).trans hy; have HC1 := Lib.hid hc; have HO := Lib.hid ho; clear hc ho hy)
  go_ret
  exact ⟨x.toNat, by omega, rfl, HC1.out, HO.out⟩
/-- a draw of a row of at most so many cells -/
def CmPost (B : Nat) (w : World) (g : Nat) (a : Option Addr) (n cap : Nat) (e : Ending) (w' : World) : Prop :=
  ∃ r l, e = .returned r ∧ Oc w' w.heap.size r l ∧ l.length ≤ 65 ∧ Cur B w' g a n cap ∧ Only (fun j => g = j) w w'
theorem cells_at3 (w : World) (t : TypeId) : ∀ j, j < 3 → (w.alloc (.cells #[.int .i64 0, .int .i64 64, .int .i64 65] t)).cell? ⟨w.heap.size, j, none⟩ = some (.int .i64 (([0, 64, 65] : List Int).getD j 0)) := by
  intro j hj
  match j with
  | 0 | 1 | 2 => simp
  | n + 3 => omega
set_option maxRecDepth 100000 in
set_option maxHeartbeats 1000000 in
theorem any_any (B g : Nat) (a : Option Addr) (n cap : Nat) (w : World) (h : Cur B w g a n cap) :
    Calls Try.prog 104 #[.pointer (some ⟨g, 0, none⟩)] w (CmPost B w g a n cap) := by
  have hglt := h.lt
  have HC := Lib.hid h
  clear h
  go_enter Try.func104, Try.ntmps104
  go_wp2_with fail
  refine (below_any B g a n cap _ _ HC.out (by omega) (by omega)).mono ?_
  rintro e w1 ⟨x, rfl, x0, x1, hc, ho⟩
  rw [if_neg (by omega)] at x1
  obtain ⟨m, hm⟩ : ∃ m : Nat, 1 + x = (m : Int) := ⟨(1 + x).toNat, by omega⟩
  have hm5 : m ≤ 65 := by omega
  have HC1 := Lib.hid hc
  have HO := Lib.hid ho
  clear HC hc ho
  go_wp2_with fail
  refine (once_any B g a n cap _ _ HC1.out (by omega) (by omega)).mono ?_
  rintro e w2 ⟨b, rfl, hc, ho⟩
  have HC2 := Lib.hid hc
  have HO2 := Lib.hid (HO.out.trans ho)
  clear HC1 HO hc ho
  cases b
  · go_wp2_with fail
    refine (cells_any B g a n cap m _ HC2.out hm5).mono ?_
    rintro e w3 ⟨r, l, rfl, hr, hl, hc, ho⟩
    have HO3 := Lib.hid (HO2.out.trans ho)
    have hb := HO2.out.size
    clear ho
    go_wp2
    go_ret
    exact ⟨r, l, rfl, own_base hr hb, by omega, hc, HO3.out⟩
  · have hlt := HC2.out.lt
    go_wp2_with fail
    refine (pick_in B g a n cap w2.heap.size [0, 64, 65] _ (HC2.out.alloc hlt _) (by simp) (by simp) (by omega) (by decide) (cells_at3 w2 _)).mono ?_
    rintro e w3 ⟨j, hj, rfl, hc, ho⟩
    obtain ⟨q, hq, hq5⟩ : ∃ q : Nat, ([0, 64, 65] : List Int).getD j 0 = (q : Int) ∧ q ≤ 65 := by
      match j with
      | 0 => exact ⟨0, rfl, by omega⟩
      | 1 => exact ⟨64, rfl, by omega⟩
      | 2 => exact ⟨65, rfl, by omega⟩
      | n + 3 => exact absurd hj (by simp)
    rw [hq]
    have HC3 := Lib.hid hc
    have HO3 := Lib.hid ((HO2.out.alloc _).trans ho)
    clear HC2 HO2 hc ho hq hm
    go_wp2_with fail
    refine (cells_any B g a n cap q _ HC3.out hq5).mono ?_
    rintro e w4 ⟨r, l, rfl, hr, hl, hc, ho⟩
    have HO4 := Lib.hid (HO3.out.trans ho)
    have hb := HO3.out.size
    clear ho
    go_wp2
    go_ret
    exact ⟨r, l, rfl, own_base hr hb, by omega, hc, HO4.out⟩
/-- the row drawn for Conjugate and its like -/
def RwPost (w : World) (e : Ending) (w' : World) : Prop := ∃ r l, e = .returned r ∧ Oc w' w.heap.size r l ∧ l.length ≤ 65 ∧ Below w.heap.size w w'
set_option maxRecDepth 100000 in
set_option maxHeartbeats 1000000 in
theorem drawConj (a : Option Addr) (n cap : Nat) (w : World) (hB : By w.heap.size w a n) (hn : n ≤ 1048576) :
    Calls Try.prog 58 #[.slice a n cap] w (RwPost w) := by
  go_enter Try.func58, Try.ntmps58
  go_wp2_with fail
  refine (new_any w.heap.size a n cap w hB hn (Nat.le_refl _)).mono ?_
  rintro e w1 ⟨g, rfl, hc, hg1, hg2, hb1⟩
  have HC := Lib.hid hc
  clear hc
  go_wp2_with fail
  refine (any_any _ g a n cap _ HC.out).mono ?_
  rintro e w2 ⟨r, l, rfl, hr, hl, hc, ho⟩
  have hb2 : Below w.heap.size w w2 := hb1.trans (below_of_only ho hb1.size (fun k hk => by omega))
  clear hc ho
  go_wp2
  go_ret
  exact ⟨r, l, rfl, own_base hr hb1.size, hl, hb2⟩
end Go.Proofs.Ytbjllfnjecggfaa
