/- Walks: EncodeHex, the program's; a figure. -/
import Derived.Test.YtpdpkgpjgockaaaSh
import Derived.Test.YtpdpkgpjgockaaaBs
namespace Go.Proofs.Ytpdpkgpjgockaaa
open Go.RowKit

def hexD (x : Nat) : UInt8 := if x < 10 then UInt8.ofNat (48 + x) else UInt8.ofNat (87 + x)
def ehF (l : List UInt8) : List UInt8 := l.flatMap fun c => [hexD (c.toNat / 16), hexD (c.toNat % 16)]
theorem ehF_snoc (l : List UInt8) (c : UInt8) : ehF (l ++ [c]) = ehF l ++ [hexD (c.toNat / 16), hexD (c.toNat % 16)] := by unfold ehF; rw [List.flatMap_append]; simp
theorem ehF_len (l : List UInt8) : (ehF l).length = 2 * l.length := by
  unfold ehF; induction l with
  | nil => rfl
  | cons c l ih => simp only [List.flatMap_cons, List.length_append, ih, List.length_cons, List.length_nil]; omega
theorem hexD_fin : ∀ x : Fin 16, ((ByteArray.mk #[48, 49, 50, 51, 52, 53, 54, 55, 56, 57, 97, 98, 99, 100, 101, 102])[x.val]'x.isLt) = hexD x.val := by decide +kernel
theorem hexD_at (x : Nat) (h : x < (ByteArray.mk #[48, 49, 50, 51, 52, 53, 54, 55, 56, 57, 97, 98, 99, 100, 101, 102]).size) : (ByteArray.mk #[48, 49, 50, 51, 52, 53, 54, 55, 56, 57, 97, 98, 99, 100, 101, 102])[x] = hexD x :=
  hexD_fin ⟨x, by simpa [ByteArray.size] using h⟩
theorem cells_next (l : List UInt8) (c : UInt8) : Lib.byteCells (ehF l) ++ [.int .u8 (hexD (c.toNat / 16)).toNat] ++ [.int .u8 (hexD (c.toNat % 16)).toNat] = Lib.byteCells (ehF (l ++ [c])) := by
  rw [ehF_snoc]; simp [Lib.byteCells]

set_option maxRecDepth 100000 in
set_option maxHeartbeats 1000000 in
theorem encI_yes (s : ByteArray) (w : World) (hs : s.size ≤ 20000) :
    Calls Try.prog 11 #[.string s] w fun e w' => e = .returned (.tuple #[.string ⟨(ehF s.data.toList).toArray⟩, .bool true]) ∧ Below w.heap.size w w' := by
  go_enter Try.func11, Try.ntmps11
  go_wp2
  go_loopw [5] (fun i wr => ∃ j : Nat, j ≤ s.size ∧ i = .int .i64 j ∧ Lib.IsBuilder TB 5 w.heap.size w.heap.size (Lib.byteCells (ehF (s.data.toList.take j))) wr ∧ Below w.heap.size w wr) (fun i _ => s.size - (intOf i).toNat)
  case atStart => exact ⟨0, Nat.zero_le _, rfl, Lib.fresh_isBuilder TB 5 w, (Below.refl _ _).alloc (Nat.le_refl _) _⟩
  case round =>
    obtain ⟨j, hj, rfl, hb, hbw⟩ := hrel
    have HB := Lib.hid hb
    clear hb
    by_cases hlt : j < s.size
    · have hx : s[j].toNat < 256 := s[j].toNat_lt
      have q0 : (0 : Int) ≤ (s[j].toNat : Int) / 16 := by omega
      have q1 : (s[j].toNat : Int) / 16 < 16 := by omega
      have hl : (Lib.byteCells (ehF (s.data.toList.take j))).length ≤ 40000 := by rw [Lib.byteCells_length, ehF_len, List.length_take]; omega
      have HL := Lib.hid hl
      have HT := Lib.hid (take_snoc s j hlt)
      clear hl
      go_wp2_with fail
      rw [hexD_at]
      refine (wbyte w.heap.size w.heap.size _ _ wr HB.out (by have := HL.out; omega) hbw.size).mono ?_
      rintro e w1 ⟨rfl, hb1, hbw1⟩
      have HB1 := Lib.hid hb1
      have HW1 := Lib.hid (hbw.trans hbw1)
      clear HB hb1 hbw1 hbw
      go_wp2_with fail
      rw [hexD_at]
      refine (wbyte w.heap.size w.heap.size _ _ w1 (.inr HB1.out) (by rw [List.length_append]; have := HL.out; simp only [List.length_cons, List.length_nil]; omega) HW1.out.size).mono ?_
      rintro e w2 ⟨rfl, hb2, hbw2⟩
      have HB2 := Lib.hid hb2
      have HW2 := Lib.hid (HW1.out.trans hbw2)
      clear HB1 HW1 hb2 hbw2
      go_wp2_with fail
      go_roundw
      case rel => exact ⟨j + 1, by omega, by go_num, by rw [HT.out, ← cells_next]; exact .inr HB2.out, HW2.out⟩
      case measure => simp [intOf]; omega
    · have hje : j = s.size := by omega
      have HE := Lib.hid (take_all s j hje)
      clear hje
      go_wp2_with fail
      refine (bstring w.heap.size w.heap.size _ wr HB.out hbw.size).mono ?_
      rintro e w1 ⟨rfl, hb1⟩
      rw [HE.out]
      go_wp2
      go_ret2
      exact ⟨rfl, hbw.trans hb1⟩
set_option maxRecDepth 100000 in
theorem encI_no (s : ByteArray) (w : World) (hs : 20000 < s.size) :
    Calls Try.prog 11 #[.string s] w fun e w' => e = .returned (.tuple #[.string ByteArray.empty, .bool false]) ∧ w = w' := by
  go_enter Try.func11, Try.ntmps11
  go_wp2
  go_ret2
  exact ⟨rfl, rfl⟩
set_option maxHeartbeats 400000 in
theorem fig_any (x : Nat) (w : World) (h : x < 16) : Calls Try.prog 16 #[.int .i64 x] w fun e w' => e = .returned (.int .u8 (hexD x).toNat) ∧ w' = w := by
  by_cases h1 : x < 10
  · have e : (hexD x).toNat = 48 + x := by unfold hexD; rw [if_pos h1]; simp; omega
    have E := Lib.hid e
    clear e
    go_enter Try.func16, Try.ntmps16
    go_wp2
    go_ret
    exact ⟨by rw [E.out]; first | rfl | (congr 2; push_cast; omega), rfl⟩
  · have e : (hexD x).toNat = 87 + x := by unfold hexD; rw [if_neg h1]; simp; omega
    have E := Lib.hid e
    clear e
    go_enter Try.func16, Try.ntmps16
    go_wp2
    go_ret
    refine ⟨?_, rfl⟩
    rw [E.out]
    show Ending.returned (.int .u8 (97 + (x : Int) - 10)) = .returned (.int .u8 ((87 + x : Nat) : Int))
    congr 2
    omega
theorem fig_z (z : Int) (w : World) (h0 : 0 ≤ z) (h1 : z < 16) : Calls Try.prog 16 #[.int .i64 z] w fun e w' => e = .returned (.int .u8 (hexD z.toNat).toNat) ∧ w = w' := by
  obtain ⟨x, rfl⟩ : ∃ x : Nat, z = x := ⟨z.toNat, by omega⟩
  exact (fig_any x w (by omega)).mono fun e w' ⟨he, hw⟩ => ⟨he, hw.symm⟩
end Go.Proofs.Ytpdpkgpjgockaaa
