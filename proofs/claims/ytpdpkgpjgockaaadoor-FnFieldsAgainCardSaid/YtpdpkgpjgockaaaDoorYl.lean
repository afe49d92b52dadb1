/- Walk: the law FnFieldsAgain returns true. -/
import Derived.Test.YtpdpkgpjgockaaaDoorYk
import Derived.Test.YtpdpkgpjgockaaaDoorYh
import Derived.Test.YtpdpkgpjgockaaaDoorYj
import Derived.Test.YtpdpkgpjgockaaaDoorBg
import Derived.MakeChecks
import Derived.Stop.LaidErr
import Derived.Lib.LaidTab
namespace Go.Proofs.YtpdpkgpjgockaaaDoor
open Go.RowKit

/-- what the rows' condition gives: the table of powers of ten -/
theorem tab_of_laid2 {W : World} (h : laidMetH Tryd.prog [("math/bits.deBruijn32tab", Rows.laid_math_bits_deBruijn32tab), ("math/bits.deBruijn64tab", Rows.laid_math_bits_deBruijn64tab), ("internal/strconv.uint64pow10", Rows.laid_internal_strconv_uint64pow10), ("unicode/utf8.acceptRanges", Rows.laid_unicode_utf8_acceptRanges), ("unicode/utf8.first", Rows.laid_unicode_utf8_first)] W) : Tab W := by
  rw [MakeChecks.laidMetH_plain _ _ _ (by kernel_rfl)] at h
  have h2 := h.tail.tail
  exact Lib.tabIs_of_head (g := 1) (t := 81) (e := 71) (n := 20) (by kernel_rfl) (by kernel_rfl) Tryd.underlying81 Tryd.underlying71 (by kernel_rfl) (by kernel_rfl) h2
theorem three_text : Lib.itoa (-3) = [45, 51] := by decide +kernel
theorem os_any {w : World} {B : Nat} {v : Value} {xs : List ByteArray} (h : Os w B v xs) : ∃ A c, v = .slice A xs.length c ∧ ∀ j, j < xs.length → ∃ g, A = some ⟨g, 0, none⟩ ∧ w.cell? ⟨g, j, none⟩ = some (.string (xs.getD j ByteArray.empty)) := by
  rcases os_split h with ⟨rfl, a, c, rfl⟩ | ⟨g, cap, rfl, hc⟩
  · exact ⟨a, c, rfl, fun j hj => by simp at hj⟩
  · exact ⟨_, cap, rfl, fun j hj => ⟨g, rfl, hc j hj⟩⟩
theorem join_take {x : List ByteArray} {j : Nat} (h : j < x.length) {S : ByteArray} (hS : S.data.toList = joinL ((x.take j).map (·.data.toList))) :
    ((S ++ x.getD j ByteArray.empty) ++ (⟨#[32]⟩ : ByteArray)).data.toList = joinL ((x.take (j + 1)).map (·.data.toList)) := by
  have e : x.take (j + 1) = x.take j ++ [x.getD j ByteArray.empty] := by
    rw [List.take_add_one, List.getElem?_eq_getElem h]; simp [List.getD, h]
  rw [e, List.map_append, List.map_cons, List.map_nil, join_snoc, ← hS]
  simp
set_option maxRecDepth 100000 in
set_option maxHeartbeats 1000000 in
theorem lawFa_small (a : Option Addr) (n cap : Nat) (w : World) (ht : Tab w) (hm : MaxLen w) (hB : By w.heap.size w a n) (hn : n ≤ 1048576) :
    Calls Tryd.prog 5 #[.slice a n cap] w fun e w' => e = .returned (.bool true) ∧ Below w.heap.size w w' := by
  have hk := drawSplit a n cap w hB hn
  have HK := Lib.hid hk
  have HT := Lib.hid ht
  have HM := Lib.hid hm
  clear hB ht hm hk
  go_enter Tryd.func5, Tryd.ntmps5
  go_wp2_with fail
  refine (big_no a n cap w hn).mono ?_
  rintro e w0 ⟨rfl, rfl⟩
  go_wp2_with fail
  refine HK.out.mono ?_
  rintro e w1 ⟨s, rfl, hs, hb⟩
  have B1 := Lib.hid hb
  have T1 := Lib.hid (HT.out.below hb)
  have M1 := Lib.hid (HM.out.below hb)
  clear hb HK HT HM
  obtain ⟨⟨x, q⟩, hr⟩ : ∃ y, sfF s = y := ⟨_, rfl⟩
  have hl := sf_len hr
  have HR := Lib.hid hr
  clear hr
  go_wp2_with fail
  refine (sfI' s x q HR.out w1 M1.out).mono ?_
  rintro e w2 ⟨r2, rfl, h2, hb⟩
  have B2 := Lib.hid (B1.out.trans (hb.mono B1.out.size))
  have T2 := Lib.hid (T1.out.below hb)
  have M2 := Lib.hid (M1.out.below hb)
  have O2 := Lib.hid h2
  clear hb h2 B1 T1 M1
  go_wp2_with fail
  refine (sfS s x q HR.out w2).mono ?_
  rintro e w3 ⟨r3, rfl, _, hb⟩
  have B3 := Lib.hid (B2.out.trans (hb.mono B2.out.size))
  have T3 := Lib.hid (T2.out.below hb)
  have M3 := Lib.hid (M2.out.below hb)
  have O3 := Lib.hid (os_below O2.out hb)
  clear hb B2 T2 M2 O2
  cases q
  · have hx := sf_false HR.out
    subst hx
    obtain ⟨A, c, rfl, _⟩ := os_any O3.out
    have h3 := three_text
    clear O3 M3 HR
    go_wp2_with fail
    refine (fiI (-3) (by omega) (by omega) w3 T3.out).mono ?_
    rintro e w4 ⟨rfl, hb⟩
    have hb4 := B3.out.trans (hb.mono B3.out.size)
    clear hb B3 T3
    rw [h3]
    go_wp2
    go_ret
    exact ⟨rfl, hb4⟩
  · obtain ⟨k1, k2, k3, k4⟩ := sf_true HR.out
    have hsz : Hid (∀ j, j < x.length → (x.getD j ByteArray.empty).size ≤ 600) := Lib.hid fun j hj => by
      have hmem : x.getD j ByteArray.empty ∈ flds s := by
        rw [← k4]
        have e : x.getD j ByteArray.empty = x[j] := by simp [List.getD, hj]
        rw [e]; exact List.getElem_mem hj
      have := flds_size hmem
      omega
    clear k1 k2 k3 k4 T3
    obtain ⟨A, c, rfl, hc⟩ := os_any O3.out
    have HC := Lib.hid hc
    clear hc
    go_wp2
    go_loopw [8, 9] (fun z i wr => ∃ (j : Nat) (S : ByteArray), j ≤ x.length ∧ i = .int .i64 j ∧ z = .string S ∧ Hid (S.data.toList = joinL ((x.take j).map (·.data.toList))) ∧ S.size ≤ 601 * j ∧ Below w3.heap.size w3 wr) (fun _ i _ => x.length - (intOf i).toNat)
    case atStart => exact ⟨0, ByteArray.empty, Nat.zero_le _, rfl, rfl, Lib.hid rfl, Nat.le_refl _, Below.refl _ _⟩
    case round =>
      obtain ⟨j, S, hj, rfl, rfl, hS, hSz, hbw⟩ := hrel
      by_cases hlt : j < x.length
      · obtain ⟨g, hA, hcell⟩ := HC.out j hlt
        rw [← hbw.cell (p := ⟨g, j, none⟩) (World.block_lt_of_cell? _ _ hcell)] at hcell
        have hp := hsz.out j hlt
        have HJ := Lib.hid (join_take hlt hS.out)
        subst hA
        generalize x.getD j ByteArray.empty = p at *
        go_wp2
        go_roundw
        case rel => exact ⟨j + 1, _, by omega, by go_num, rfl, HJ, by rw [ByteArray.size_append, ByteArray.size_append]; show S.size + p.size + 1 ≤ _; omega, hbw⟩
        case measure => simp [intOf]; omega
      · have hje : j = x.length := by omega
        subst hje
        rw [List.take_of_length_le (Nat.le_refl _)] at hS
        have O4 := Lib.hid (os_below O3.out hbw)
        have M4 := Lib.hid (M3.out.below hbw)
        have B4 := Lib.hid (B3.out.trans (hbw.mono B3.out.size))
        clear hbw hlt O3 M3 B3 HC hsz hj
        by_cases h6 : S.size ≤ 600
        · have hr2 := Lib.hid (sf_again HR.out hS.out h6)
          have h6' : decide (600 < (S.size : Int)) = false := decide_eq_false (by omega)
          go_wp2_with fail
          refine (sfI' S x true hr2.out wr M4.out).mono ?_
          rintro e w5 ⟨r5, rfl, h5, hb⟩
          have B5 := Lib.hid (B4.out.trans (hb.mono B4.out.size))
          have O5 := Lib.hid (os_below O4.out hb)
          have G5 := Lib.hid h5
          clear hb h5 B4 O4 M4
          go_wp2_with fail
          refine (sameTexts_any _ r5 _ _ x w5 O5.out G5.out (by omega)).mono ?_
          rintro e w6 ⟨rfl, hb⟩
          have hb6 := B5.out.trans (hb.mono B5.out.size)
          clear hb B5 O5 G5
          go_wp2
          go_ret
          exact ⟨rfl, hb6⟩
        · have hr2 := Lib.hid (sf_long (s := S) (by omega))
          have h6' : decide (600 < (S.size : Int)) = true := decide_eq_true (by omega)
          clear h6
          go_wp2_with fail
          refine (sfI' S [] false hr2.out wr M4.out).mono ?_
          rintro e w5 ⟨r5, rfl, _, hb⟩
          have hb5 := B4.out.trans (hb.mono B4.out.size)
          clear hb B4 O4 M4
          go_wp2
          go_ret
          exact ⟨rfl, hb5⟩
set_option maxRecDepth 100000 in
theorem lawFa_big (a : Option Addr) (n cap : Nat) (w : World) (hn : 1048576 < n) :
    Calls Tryd.prog 5 #[.slice a n cap] w fun e w' => e = .returned (.bool true) ∧ Below w.heap.size w w' := by
  go_enter Tryd.func5, Tryd.ntmps5
  go_wp2_with fail
  refine (big_yes a n cap w hn).mono ?_
  rintro e w1 ⟨rfl, rfl⟩
  go_wp2_with fail
  go_ret
  exact ⟨rfl, Below.refl _ _⟩
theorem lawFa (w : World) (ht : Tab w) (hm : MaxLen w) (a : Option Addr) (n cap : Nat) (_z : Nat) (hB : By w.heap.size w a n) :
    Calls Tryd.prog 5 #[.slice a n cap] w fun e w' => e = .returned (.bool true) ∧ Below w.heap.size w w' := by
  by_cases h : 1048576 < n
  · exact lawFa_big a n cap w h
  · exact lawFa_small a n cap w ht hm hB (by omega)
end Go.Proofs.YtpdpkgpjgockaaaDoor
