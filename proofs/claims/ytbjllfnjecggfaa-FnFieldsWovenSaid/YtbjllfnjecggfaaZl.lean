/- The law FnFieldsWoven returns true. -/
import Derived.Test.YtbjllfnjecggfaaZj
import Derived.Test.YtbjllfnjecggfaaZi
import Derived.Test.YtbjllfnjecggfaaZc
import Derived.Test.YtbjllfnjecggfaaTv
namespace Go.Proofs.Ytbjllfnjecggfaa
open Go.RowKit

theorem ext_getD {L M : Pic} (hl : L.length = M.length) (h : ∀ i, i < L.length → L.getD i [] = M.getD i []) : L = M := by
  apply List.ext_getElem hl
  intro i h1 h2
  have := h i h1
  simpa [List.getD, h1, h2] using this
theorem woven {L : Pic} (h : picB L = true) : wvN (fld L 0) (fld L 1) (L.length / 2) = L := by
  obtain ⟨⟨n1, n2⟩, n3, _⟩ := picB_parts h
  refine ext_getD (by rw [wvN_len]; omega) fun i hi => ?_
  rw [wvN_len] at hi
  rw [wvN_at _ _ _ _ hi]
  by_cases e : i % 2 = 0
  · rw [if_pos e, fld_at _ _ _ (by rw [fld_len]; omega), show 0 + 2 * (i / 2) = i by omega]
  · rw [if_neg e, fld_at _ _ _ (by rw [fld_len]; omega), show 1 + 2 * (i / 2) = i by omega]
theorem fld_short {L : Pic} (h : picB L = true) {k : Nat} (hk : k ≤ 1) : (fld L k).length = L.length / 2 ∧ ∀ i, i < L.length / 2 → ((fld L k).getD i []).length ≤ 1048576 := by
  obtain ⟨⟨n1, n2⟩, n3, n4⟩ := picB_parts h
  have hl : (fld L k).length = L.length / 2 := by rw [fld_len]; omega
  refine ⟨hl, fun i hi => ?_⟩
  rw [fld_at L k i (by omega)]
  have := rowB_len (n4 (k + 2 * i) (by omega)).1
  omega
set_option maxRecDepth 100000 in
set_option maxHeartbeats 4000000 in
theorem lawFw_small (a : Option Addr) (n cap : Nat) (w : World) (hB : By w.heap.size w a n) (hn : n ≤ 1048576) :
    Calls Try.prog 22 #[.slice a n cap] w fun e w' => e = .returned (.bool true) ∧ Below w.heap.size w w' := by
  have hk := drawFieldOf a n cap w hB hn
  have HK := Lib.hid hk
  clear hB hk
  go_enter Try.func22, Try.ntmps22
  go_wp2_with fail
  refine (big_no a n cap w hn).mono ?_
  rintro e w0 ⟨rfl, rfl⟩
  go_wp2_with fail
  refine HK.out.mono ?_
  rintro e w1 ⟨r, L, m, rfl, hr, hl, hrow, hb⟩
  have B1 := Lib.hid hb
  have S1 := Lib.hid hr
  have HRow : Hid (∀ i, i < L.length → (L.getD i []).length ≤ 1048576) := Lib.hid fun i hi => Nat.le_trans (hrow i hi) (by omega)
  clear HK hb hr hrow
  obtain ⟨q, hq⟩ : ∃ q, picB L = q := ⟨_, rfl⟩
  have HQ := Lib.hid hq
  clear hq
  go_wp2_with fail
  refine (fieldI_any r L 0 q _ S1.out HRow.out (by omega) HQ.out).mono ?_
  rintro e w2 ⟨f0, rfl, ho, hb⟩
  have B2 := Lib.hid (B1.out.trans (hb.mono B1.out.size))
  have S2 := Lib.hid (S1.out.below hb)
  have F2 := Lib.hid ho.rp
  clear hb B1 S1 ho
  go_wp2_with fail
  refine (fieldI_any r L 1 q _ S2.out HRow.out (by omega) HQ.out).mono ?_
  rintro e w3 ⟨f1, rfl, ho, hb⟩
  have B3 := Lib.hid (B2.out.trans (hb.mono B2.out.size))
  have S3 := Lib.hid (S2.out.below hb)
  have F3 := Lib.hid (F2.out.below hb)
  have G3 := Lib.hid ho.rp
  clear hb B2 S2 F2 ho
  cases q
  · have F3' : Hid (Rp w3 f0 []) := F3
    have G3' : Hid (Rp w3 f1 []) := G3
    obtain ⟨fa, fc, rfl⟩ := F3'.out.form
    obtain ⟨ga, gc, rfl⟩ := G3'.out.form
    go_wp2_with fail
    refine (weaveI_any _ _ [] [] 0 false _ F3'.out G3'.out rfl rfl (by omega) (fun i hi => by omega) (fun i hi => by omega) (picB_len (by simp [wvN]))).mono ?_
    rintro e w4 ⟨r2, rfl, ho, hb⟩
    have B4 := Lib.hid (B3.out.trans (hb.mono B3.out.size))
    have S4 := Lib.hid (S3.out.below hb)
    clear hb B3 S3 F3 G3 F3' G3' ho
    go_wp2_with fail
    refine (picS_any r L false _ S4.out HRow.out HQ.out).mono ?_
    rintro e w5 ⟨rfl, hb⟩
    have hb5 := B4.out.trans (hb.mono B4.out.size)
    clear hb B4 S4
    go_wp2
    go_ret
    exact ⟨rfl, hb5⟩
  · have F3' : Hid (Rp w3 f0 (fld L 0)) := F3
    have G3' : Hid (Rp w3 f1 (fld L 1)) := G3
    obtain ⟨e0, s0⟩ := fld_short HQ.out (k := 0) (by omega)
    obtain ⟨e1, s1⟩ := fld_short HQ.out (k := 1) (by omega)
    have W := woven HQ.out
    have H64 : L.length / 2 ≤ 64 := by omega
    have hW := Lib.hid (weaveI_any f0 f1 (fld L 0) (fld L 1) (L.length / 2) true w3 F3'.out G3'.out e0 e1 H64 s0 s1 (by rw [W]; exact HQ.out))
    rw [W] at hW
    obtain ⟨fa, fc, rfl⟩ := F3'.out.form
    obtain ⟨ga, gc, rfl⟩ := G3'.out.form
    rw [e0, e1] at hW
    rw [e0, e1]
    obtain ⟨H, hH⟩ : ∃ H, H = L.length / 2 := ⟨_, rfl⟩
    rw [← hH] at hW ⊢
    clear F3 G3 F3' G3' e0 e1 s0 s1 W H64 hH
    go_wp2_with fail
    refine hW.out.mono ?_
    rintro e w4 ⟨r2, rfl, ho, hb⟩
    have T4 : Hid (Rp w4 r2 L) := Lib.hid ho.rp
    have B4 := Lib.hid (B3.out.trans (hb.mono B3.out.size))
    have S4 := Lib.hid (S3.out.below hb)
    clear hb B3 S3 ho hW
    go_wp2_with fail
    refine (picS_any r L true _ S4.out HRow.out HQ.out).mono ?_
    rintro e w5 ⟨rfl, hb⟩
    have B5 := Lib.hid (B4.out.trans (hb.mono B4.out.size))
    have S5 := Lib.hid (S4.out.below hb)
    have T5 := Lib.hid (T4.out.below hb)
    have hlen : 4 ≤ L.length := by obtain ⟨⟨n1, n2⟩, n3, _⟩ := picB_parts HQ.out; exact n1
    clear hb B4 S4 T4
    rcases S5.out with ⟨e, _⟩ | ⟨b1, o1, c1, rfl, h1⟩
    · subst e; simp at hlen
    rcases T5.out with ⟨e, _⟩ | ⟨b2, o2, c2, rfl, h2⟩
    · subst e; simp at hlen
    have C1 := Lib.hid h1
    have C2 := Lib.hid h2
    clear S5 T5 h1 h2
    go_wp2
    go_loopw [9] (fun iv wr => ∃ i : Nat, i ≤ L.length ∧ iv = .int .i64 i ∧ Hid (Below w5.heap.size w5 wr)) (fun iv _ => L.length - (intOf iv).toNat)
    case atStart => exact ⟨0, Nat.zero_le _, rfl, Lib.hid (Below.refl _ _)⟩
    case round =>
      obtain ⟨i, hi, rfl, HB⟩ := hrel
      by_cases hlt : i < L.length
      · obtain ⟨x1, y1, g1, t1⟩ := C1.out i hlt
        obtain ⟨x2, y2, g2, t2⟩ := C2.out i hlt
        have g1' : wr.cell? ⟨b1, o1 + i, none⟩ = _ := (HB.out.cell (p := ⟨b1, o1 + i, none⟩) (World.block_lt_of_cell? _ _ g1)).trans g1
        have g2' : wr.cell? ⟨b2, o2 + i, none⟩ = _ := (HB.out.cell (p := ⟨b2, o2 + i, none⟩) (World.block_lt_of_cell? _ _ g2)).trans g2
        have hls := HRow.out i hlt
        have R1 := Lib.hid ((t1.below HB.out).below (w' := wr.drew) (Below.refl _ wr).drew)
        have R2 := Lib.hid ((t2.below HB.out).below (w' := wr.drew) (Below.refl _ wr).drew)
        have BD := Lib.hid (HB.out.drew)
        clear g1 g2 t1 t2
        generalize L.getD i [] = l at *
        go_wp2
        go_region_with (refine (sameRow_any _ _ l l _ R1.out R2.out (by unfold Swc; rfl) hls).mono ?_; rintro e w6 ⟨rfl, hb⟩)
        all_goals
          have hb6 := Lib.hid (BD.out.trans (hb.mono BD.out.size))
          clear hb
          go_wp2
          go_roundw
          case rel => exact ⟨i + 1, by omega, by go_num, hb6⟩
          case measure => simp [intOf]; omega
      · have hie : i = L.length := by omega
        subst hie
        have hbf := B5.out.trans (HB.out.mono B5.out.size)
        go_wp2
        go_ret
        exact ⟨rfl, hbf⟩
set_option maxRecDepth 100000 in
set_option maxHeartbeats 1000000 in
theorem lawFw_big (a : Option Addr) (n cap : Nat) (w : World) (hn : 1048576 < n) :
    Calls Try.prog 22 #[.slice a n cap] w fun e w' => e = .returned (.bool true) ∧ Below w.heap.size w w' := by
  go_enter Try.func22, Try.ntmps22
  go_wp2_with fail
  refine (big_yes a n cap w hn).mono ?_
  rintro e w1 ⟨rfl, rfl⟩
  go_wp2_with fail
  go_ret
  exact ⟨rfl, Below.refl _ _⟩
theorem lawFw (w : World) (a : Option Addr) (n cap : Nat) (_z : Nat) (hB : By w.heap.size w a n) :
    Calls Try.prog 22 #[.slice a n cap] w fun e w' => e = .returned (.bool true) ∧ Below w.heap.size w w' := by
  by_cases h : 1048576 < n
  · exact lawFw_big a n cap w h
  · exact lawFw_small a n cap w hB (by omega)
end Go.Proofs.Ytbjllfnjecggfaa
