/- Walks: the drawing of arguments: l02Level. -/
import Derived.Test.YtbjllfnjecggfaaUf
namespace Go.Proofs.Ytbjllfnjecggfaa
open Go.RowKit
def DfPost (B : Nat) (w : World) (g : Nat) (a : Option Addr) (n cap : Nat) (e : Ending) (w' : World) : Prop :=
  ∃ x : Nat, e = .returned (.float .f32 x) ∧ Cur B w' g a n cap ∧ Only (fun j => g = j) w w'
set_option maxRecDepth 100000 in
set_option maxHeartbeats 1000000 in
theorem level_any (B g : Nat) (a : Option Addr) (n cap : Nat) (w : World) (h : Cur B w g a n cap) :
    Calls Try.prog 127 #[.pointer (some ⟨g, 0, none⟩)] w (DfPost B w g a n cap) := by
  have HC := Lib.hid h
  clear h
  go_enter Try.func127, Try.ntmps127
  go_wp2_with fail
  refine (once_any B g a n cap _ _ HC.out (by omega) (by omega)).mono ?_
  rintro e w1 ⟨b1, rfl, hc, ho⟩
  have HC1 := Lib.hid hc
  have HO := Lib.hid ho
  clear HC hc ho
  cases b1
  · go_wp2_with fail
    refine (once_any B g a n cap _ _ HC1.out (by omega) (by omega)).mono ?_
    rintro e w2 ⟨b2, rfl, hc, ho⟩
    replace HO := Lib.hid (HO.out.trans ho)
    have HC2 := Lib.hid hc
    clear HC1 hc ho
    cases b2
    · go_wp2_with fail
      refine (below_any B g a n cap _ _ HC2.out (by omega) (by omega)).mono ?_
      rintro e w3 ⟨y, rfl, y0, y1, hc, ho⟩
      replace HO := Lib.hid (HO.out.trans ho)
      have HC3 := Lib.hid hc
      clear HC2 hc ho
      go_wp2_with fail
      go_ret
      exact ⟨_, rfl, by repeat (first | exact HC3.out | refine Cur.drewN ?_ _), by repeat (first | exact HO.out | refine Only.drewN ?_ _)⟩
    · go_wp2_with fail
      have hlt := HC2.out.lt
      refine (pick_any B g a n cap w2.heap.size 3 _ (HC2.out.alloc hlt _) (by omega) (by omega) (by omega) (cells_ints w2 [256, -256, 257] 3 (by decide))).mono ?_
      rintro e w3 ⟨y, rfl, y0, y1, hc, ho⟩
      replace HO := Lib.hid ((HO.out.alloc _).trans ho)
      have HC3 := Lib.hid hc
      clear HC2 hc ho
      go_wp2_with fail
      go_ret
      exact ⟨_, rfl, by repeat (first | exact HC3.out | refine Cur.drewN ?_ _), by repeat (first | exact HO.out | refine Only.drewN ?_ _)⟩
  · go_wp2_with fail
    refine (odd_any B g a n cap _ HC1.out).mono ?_
    rintro e w2 ⟨y, rfl, hc, ho⟩
    replace HO := Lib.hid (HO.out.trans ho)
    have HC3 := Lib.hid hc
    clear HC1 hc ho
    go_wp2_with fail
    go_ret
    exact ⟨_, rfl, by repeat (first | exact HC3.out | refine Cur.drewN ?_ _), by repeat (first | exact HO.out | refine Only.drewN ?_ _)⟩
end Go.Proofs.Ytbjllfnjecggfaa
