/- Walks: the draws of texts. -/
import Derived.Test.YtpdpkgpjgockaaaDoorUkT
import Derived.Test.YtpdpkgpjgockaaaDoorBs
namespace Go.Proofs.YtpdpkgpjgockaaaDoor
open Go.RowKit

theorem made_bytes (n : Nat) : (madeCells (Value.int .u8 0).cells (n * 1)).toList = Lib.byteCells (List.replicate n 0) := by
  rw [Nat.mul_one, show (Value.int .u8 0).cells = #[.int .u8 0] from rfl, toList_madeCells_one]
  unfold Lib.byteCells; rw [List.map_replicate]; rfl
theorem byteCells_at (l : List UInt8) (k : Nat) (h : k < l.length) : (Lib.byteCells l)[k]? = some (.int .u8 (l.getD k 0).toNat) := by
  simp [Lib.byteCells, List.getD, h]
theorem byteCells_set (l : List UInt8) (k : Nat) (c : UInt8) : (Lib.byteCells l).set k (.int .u8 c.toNat) = Lib.byteCells (l.set k c) := by
  unfold Lib.byteCells; rw [List.map_set]
/-- a text of so many bytes -/
def TxPost (w : World) (m : Nat) (e : Ending) (w' : World) : Prop := ∃ s : ByteArray, e = .returned (.string s) ∧ s.size ≤ m ∧ Below w.heap.size w w'
set_option maxRecDepth 100000 in
set_option maxHeartbeats 1000000 in
theorem long_any (n : Nat) (c : UInt8) (w : World) (hn : n ≤ 1048576) :
    Calls Tryd.prog 37 #[.int .i64 n, .int .u8 c.toNat] w fun e w' => ∃ s : ByteArray, e = .returned (.string s) ∧ s.size = n ∧ Below w.heap.size w w' := by
  obtain ⟨i0, hi, hz0, hz1, hz2⟩ := info_parts info5
  go_enter Tryd.func37, Tryd.ntmps37
  go_wp2_with (at_make; refine wpList_make_full _ rfl _ _ 22 rfl w.heap.size 5 i0 (.int .u8 0) 1 Tryd.underlying22 hi hz0 hz1 .i64 .i64 _ _ n rfl rfl rfl rfl (by rw [hz2]; omega) (by unfold maxLen; omega) (Nat.le_refl _) ?_; intro w1 hown hgrow)
  have hb1 : Below w.heap.size w w1 := (Below.refl _ _).grown hgrow (Nat.le_refl _) (fun k h => by cases h)
  rw [made_bytes] at hown
  go_loopw [6] (fun i wr => ∃ (k : Nat) (l : List UInt8), k ≤ n ∧ l.length = n ∧ i = .int .i64 k ∧ wr.ownsRow w.heap.size 5 1 (.slice (some ⟨w.heap.size, 0, none⟩) n n) n (Lib.byteCells l) ∧ Below w.heap.size w wr) (fun i _ => n - (intOf i).toNat)
  case atStart => exact ⟨0, List.replicate n 0, Nat.zero_le _, List.length_replicate, rfl, hown, hb1⟩
  case round =>
    obtain ⟨k, l, hk, hl, rfl, hown, hbw⟩ := hrel
    by_cases hlt : k < n
    · have hw := (hown.cellAt k (by omega)).trans (byteCells_at l k (by omega))
      have hfz := hown.frozenAt k
      have hst := Lib.hid (hown.stored k (.int .u8 c.toNat))
      have HL := Lib.hid hl
      clear hl
      go_wp2
      go_roundw
      case rel =>
        have h := hst.out
        rw [byteCells_set] at h
        exact ⟨k + 1, l.set k c, by omega, by rw [List.length_set]; exact HL.out, by go_num, h.1, hbw.setCell (Nat.le_refl _) _⟩
      case measure => simp [intOf]; omega
    · have hge : n ≤ k := by omega
      have hob : Ob wr w.heap.size (.slice (some ⟨w.heap.size, 0, none⟩) n n) l := by unfold Ob; rw [hl]; exact hown
      have hst := hob.string
      have HL := Lib.hid hl
      clear hl hlt
      go_wp2
      go_ret
      exact ⟨_, rfl, HL.out, hbw⟩
theorem byte_of (x : Int) (h0 : 0 ≤ x) (h1 : x ≤ 255) : ∃ c : UInt8, (c.toNat : Int) = x := ⟨UInt8.ofNat x.toNat, by simp; omega⟩
set_option maxRecDepth 100000 in
set_option maxHeartbeats 1000000 in
theorem text_any (B g : Nat) (a : Option Addr) (n cap : Nat) (m : Nat) (w : World) (h : Cur B w g a n cap) (hm : m ≤ 5000) :
    Calls Tryd.prog 39 #[.pointer (some ⟨g, 0, none⟩), .int .i64 m] w fun e w' => ∃ s : ByteArray, e = .returned (.string s) ∧ s.size ≤ 5000 ∧ Only (fun j => g = j) w w' := by
  obtain ⟨i0, hi, hz0, hz1, hz2⟩ := info_parts info5
  have hglt := h.lt
  have hBg := h.two
  have HC := Lib.hid (h.alloc h.lt (.cells #[] 5))
  clear h
  go_enter Tryd.func39, Tryd.ntmps39
  go_wp2
  go_loopw [5, 6] (fun o i wr => ∃ (j : Nat) (l : List UInt8), j ≤ m ∧ l.length = j ∧ i = .int .i64 j ∧ Ob wr w.heap.size o l ∧ Cur B wr g a n cap ∧ Only (fun j => g = j) w wr) (fun _ i _ => m - (intOf i).toNat)
  case atStart => exact ⟨0, [], Nat.zero_le _, rfl, rfl, ob_nil w, HC.out, (Only.refl _ _).alloc _⟩
  case round =>
    obtain ⟨j, l, hj, hl, rfl, hown, hc, ho⟩ := hrel
    have HO := Lib.hid ho
    have HCu := Lib.hid hc
    have HL := Lib.hid hl
    have hl5 : l.length ≤ 5000 := by omega
    have hsz := ho.size
    clear ho hc hl
    by_cases hlt : j < m
    · go_wp2_with fail
      refine (byteD HCu.out).mono ?_
      rintro e w1 ⟨x, rfl, x0, x1, hc1, ho1⟩
      obtain ⟨c, rfl⟩ := byte_of x x0 x1
      have hs1 := ho1.size
      have hown1 : Ob w1 w.heap.size u5 l := ho1.kept hown fun k hk e => by have := (hown.lt k hk).1; omega
      have HC1 := Lib.hid hc1
      have HO1 := Lib.hid (HO.out.trans ho1)
      clear HC HO HCu hc1 ho1 hown
      go_wp2_with (at_builtin; refine wpList_append_own _ rfl _ _ 22 rfl w.heap.size 5 i0 (.int .u8 0) 1 1 Tryd.underlying22 hi hz0 hz1 hz2 rfl (by decide) _ l.length _ rfl (hown1.alloc _) _ 1 1 [.int .u8 _] rfl rfl (byte_cells1 _ _ _) (by simp [Value.oneCell']) (by unfold maxLen; omega) (by omega) (by simp; omega) ?_; intro v' w2 hown2 hgrow2 _)
      have hg2 := Only.of_grown hgrow2
      have hrow : ∀ k, some k = u5.ownBlock → w.heap.size ≤ k := fun k hk => (hown1.lt k hk.symm).1
      have hc2 : Cur B w2 g a n cap := (HC1.out.alloc HC1.out.lt _).keep hg2 (fun hs => by have := hrow g hs; omega) (fun k hs => by have := hrow k hs; omega)
      have ho2 : Only (fun j => g = j) w w2 := by
        refine ⟨hg2.os.trans HO1.out.os, hg2.tape.trans HO1.out.tape, hg2.output.trans HO1.out.output, Nat.le_trans HO1.out.size (Nat.le_trans (by simp) hg2.size), fun k hk hn => ?_⟩
        rw [hg2.block k (by simp; omega) (fun hs => by have := hrow k hs; omega), Below.heap_alloc _ _ _ (by omega)]
        exact HO1.out.block k hk hn
      go_roundw
      case rel => exact ⟨j + 1, l ++ [c], by omega, by simp [HL.out], by go_num, ob_snoc hown2, hc2, ho2⟩
      case measure => simp [intOf]; omega
    · have hge : m ≤ j := by omega
      have hst := hown.string
      clear hlt
      go_wp2
      go_ret
      exact ⟨_, rfl, hl5, HO.out⟩
end Go.Proofs.YtpdpkgpjgockaaaDoor
