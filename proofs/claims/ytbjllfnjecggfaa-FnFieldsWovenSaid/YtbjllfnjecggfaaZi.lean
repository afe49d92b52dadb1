/- Walks: the drawings of the laws on pictures. -/
import Derived.Test.YtbjllfnjecggfaaZh
import Derived.Test.YtbjllfnjecggfaaUj
import Derived.StillTailTactics
namespace Go.Proofs.Ytbjllfnjecggfaa
open Go.RowKit

def PlacePost (B : Nat) (w : World) (g : Nat) (a : Option Addr) (n cap : Nat) (e : Ending) (w' : World) : Prop :=
  ∃ m : Int, e = .returned (.int .i64 m) ∧ Cur B w' g a n cap ∧ Only (fun j => g = j) w w'
theorem cells_at5 (w : World) (t : TypeId) : ∀ j, j < 5 → (w.alloc (.cells #[.int .i64 (-1), .int .i64 2, .int .i64 3, .int .i64 9223372036854775807, .int .i64 (-9223372036854775808)] t)).cell? ⟨w.heap.size, j, none⟩ = some (.int .i64 (([-1, 2, 3, 9223372036854775807, -9223372036854775808] : List Int).getD j 0)) := by
  intro j hj
  match j with
  | 0 | 1 | 2 | 3 | 4 => simp
  | n + 5 => omega
set_option maxRecDepth 100000 in
set_option maxHeartbeats 1000000 in
theorem place_any (B g : Nat) (a : Option Addr) (n cap : Nat) (w : World) (h : Cur B w g a n cap) :
    Calls Try.prog 121 #[.pointer (some ⟨g, 0, none⟩), .int .i64 2] w (PlacePost B w g a n cap) := by
  have HC := Lib.hid h
  clear h
  go_enter Try.func121, Try.ntmps121
  go_wp2_with fail
  refine (once_any _ g a n cap 15 _ HC.out (by omega) (by omega)).mono ?_
  rintro e w3 ⟨q, rfl, hc, ho⟩
  have HC3 := Lib.hid hc
  have HO3 := Lib.hid ho
  clear hc ho HC
  cases q
  · go_wp2_with fail
    refine (below_any _ g a n cap _ _ HC3.out (by omega) (by omega)).mono ?_
    rintro e w4 ⟨x, rfl, x0, x1, hc, ho⟩
    have HC4 := Lib.hid hc
    have HO4 := Lib.hid (HO3.out.trans ho)
    clear hc ho HC3 HO3
    go_wp2
    go_ret
    exact ⟨x, rfl, HC4.out, HO4.out⟩
  · have hlt := HC3.out.lt
    go_wp2_with fail
    refine (pick_in _ g a n cap w3.heap.size [-1, 2, 3, 9223372036854775807, -9223372036854775808] _ (HC3.out.alloc hlt _) (by simp) (by simp) (by omega) (by decide) (cells_at5 w3 _)).mono ?_
    rintro e w4 ⟨j, hj, rfl, hc, ho⟩
    have HC4 := Lib.hid hc
    have HO4 := Lib.hid ((HO3.out.alloc _).trans ho)
    clear hc ho HC3 HO3
    go_wp2
    go_ret
    exact ⟨_, rfl, HC4.out, HO4.out⟩
def DipPost (w : World) (e : Ending) (w' : World) : Prop :=
  ∃ r L, e = .returned r ∧ Rp w' r L ∧ L.length ≤ 16 ∧ (∀ i, i < L.length → (L.getD i []).length ≤ 64) ∧ Below w.heap.size w w'
set_option maxRecDepth 100000 in
set_option maxHeartbeats 1000000 in
theorem drawIsPaired (a : Option Addr) (n cap : Nat) (w : World) (hB : By w.heap.size w a n) (hn : n ≤ 1048576) :
    Calls Try.prog 72 #[.slice a n cap] w (DipPost w) := by
  go_enter Try.func72, Try.ntmps72
  go_wp2_with fail
  refine (new_any w.heap.size a n cap w hB hn (Nat.le_refl _)).mono ?_
  rintro e w1 ⟨g, rfl, hc, hg1, hg2, hb1⟩
  have HC := Lib.hid hc
  have hs1 := hb1.size
  clear hc
  go_wp2_with fail
  refine (picture_any _ g a n cap _ HC.out).mono ?_
  rintro e w2 ⟨r, L, rfl, hr, h1, h2, hc, ho⟩
  have HB2 := Lib.hid (hb1.trans (below_of_only ho hb1.size (fun k hk => by omega)))
  have HR := Lib.hid hr.rp
  have HL := Lib.hid h2
  clear hc ho HC hr h2
  go_wp2
  go_ret
  exact ⟨_, L, rfl, HR.out, h1, HL.out, HB2.out⟩
def DfoPost (w : World) (e : Ending) (w' : World) : Prop :=
  ∃ r L m, e = .returned (.tuple #[r, .int .i64 m]) ∧ Rp w' r L ∧ L.length ≤ 16 ∧ (∀ i, i < L.length → (L.getD i []).length ≤ 64) ∧ Below w.heap.size w w'
set_option maxRecDepth 100000 in
set_option maxHeartbeats 1000000 in
theorem drawFieldOf (a : Option Addr) (n cap : Nat) (w : World) (hB : By w.heap.size w a n) (hn : n ≤ 1048576) :
    Calls Try.prog 78 #[.slice a n cap] w (DfoPost w) := by
  go_enter Try.func78, Try.ntmps78
  go_wp2_with fail
  refine (new_any w.heap.size a n cap w hB hn (Nat.le_refl _)).mono ?_
  rintro e w1 ⟨g, rfl, hc, hg1, hg2, hb1⟩
  have HC := Lib.hid hc
  have hs1 := hb1.size
  clear hc
  go_wp2_with fail
  refine (picture_any _ g a n cap _ HC.out).mono ?_
  rintro e w2 ⟨r, L, rfl, hr, h1, h2, hc, ho⟩
  have HB2 := Lib.hid (hb1.trans (below_of_only ho hb1.size (fun k hk => by omega)))
  have hglt := HC.out.lt
  have HR := Lib.hid hr
  have HL := Lib.hid h2
  have HC2 := Lib.hid hc
  clear hc ho HC hr h2
  go_wp2_with fail
  refine (place_any _ g a n cap _ HC2.out).mono ?_
  rintro e w3 ⟨m, rfl, hc, ho⟩
  have HB3 := Lib.hid (HB2.out.trans (below_of_only ho HB2.out.size (fun k hk => by omega)))
  have HR3 := Lib.hid (HR.out.only ho hglt).rp
  clear hc ho HC2 HR HB2
  go_wp2
  go_ret2
  exact ⟨_, L, m, rfl, HR3.out, h1, HL.out, HB3.out⟩
end Go.Proofs.Ytbjllfnjecggfaa
