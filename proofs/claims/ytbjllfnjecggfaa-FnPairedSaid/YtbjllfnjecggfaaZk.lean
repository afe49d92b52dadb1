/- The law FnPaired returns true. -/
import Derived.Test.YtbjllfnjecggfaaZi
import Derived.Test.YtbjllfnjecggfaaZc
import Derived.Test.YtbjllfnjecggfaaTv
namespace Go.Proofs.Ytbjllfnjecggfaa
open Go.RowKit

/-- cell j of a field's rows 2 t and 2 t + 1: do they share their colour? -/
def peq (F : Pic) (t j : Nat) : Bool := ceq ((F.getD (2 * t) []).getD j c0) ((F.getD (2 * t + 1) []).getD j c0)
def prw (F : Pic) (t : Nat) : Bool := (List.range (F.getD (2 * t) []).length).all (peq F t)
def wov (F : Pic) : Bool := (List.range (F.length / 2)).all (prw F)
theorem prw_fld (L : Pic) (k t : Nat) (h : 2 * t + 1 < (fld L k).length) : prw (fld L k) t = prR L (k + 4 * t) := by
  have e1 : (fld L k).getD (2 * t) [] = L.getD (k + 4 * t) [] := by rw [fld_at L k _ (by omega)]; congr 1; omega
  have e2 : (fld L k).getD (2 * t + 1) [] = L.getD (k + 4 * t + 2) [] := by rw [fld_at L k _ h]; congr 1; omega
  unfold prw prR
  rw [e1]
  congr 1
  funext j
  unfold peq prow
  rw [e1, e2]
theorem prB_wov {L : Pic} (h : picB L = true) : prB L = (wov (fld L 0) && wov (fld L 1)) := by
  obtain ⟨⟨n1, n2⟩, n3, _⟩ := picB_parts h
  rw [Bool.eq_iff_iff, Bool.and_eq_true]
  unfold prB wov
  rw [List.all_eq_true, List.all_eq_true, List.all_eq_true]
  constructor
  · intro hp
    refine ⟨fun t ht => ?_, fun t ht => ?_⟩
    · have ht := List.mem_range.1 ht
      rw [fld_len] at ht
      have := hp (0 + 4 * t) (List.mem_range.2 (by omega))
      rw [decide_eq_false (by omega), Bool.false_or] at this
      rw [prw_fld _ _ _ (by rw [fld_len]; omega)]
      exact this
    · have ht := List.mem_range.1 ht
      rw [fld_len] at ht
      have := hp (1 + 4 * t) (List.mem_range.2 (by omega))
      rw [decide_eq_false (by omega), Bool.false_or] at this
      rw [prw_fld _ _ _ (by rw [fld_len]; omega)]
      exact this
  · rintro ⟨h0, h1⟩ r hr
    have hr := List.mem_range.1 hr
    by_cases hm : 1 < r % 4
    · rw [decide_eq_true hm]; rfl
    · rw [decide_eq_false hm, Bool.false_or]
      rcases (by omega : r % 4 = 0 ∨ r % 4 = 1) with e | e
      · have := h0 (r / 4) (List.mem_range.2 (by rw [fld_len]; omega))
        rw [prw_fld _ _ _ (by rw [fld_len]; omega), show 0 + 4 * (r / 4) = r by omega] at this
        exact this
      · have := h1 (r / 4) (List.mem_range.2 (by rw [fld_len]; omega))
        rw [prw_fld _ _ _ (by rw [fld_len]; omega), show 1 + 4 * (r / 4) = r by omega] at this
        exact this
/-- the rows of a picture's field -/
theorem fld_rows {L : Pic} (h : picB L = true) {k : Nat} (hk : k ≤ 1) : (fld L k).length = L.length / 2 ∧ ∀ i, i < (fld L k).length → (1 ≤ ((fld L k).getD i []).length ∧ ((fld L k).getD i []).length ≤ 64) ∧ ((fld L k).getD i []).length = (L.getD 0 []).length := by
  obtain ⟨⟨n1, n2⟩, n3, n4⟩ := picB_parts h
  have hl : (fld L k).length = L.length / 2 := by rw [fld_len]; omega
  refine ⟨hl, fun i hi => ?_⟩
  rw [fld_at L k i hi]
  obtain ⟨m1, m2⟩ := n4 (k + 2 * i) (by omega)
  exact ⟨rowB_len m1, m2⟩
set_option maxRecDepth 100000 in
set_option maxHeartbeats 4000000 in
theorem lawPr_small (a : Option Addr) (n cap : Nat) (w : World) (hB : By w.heap.size w a n) (hn : n ≤ 1048576) :
    Calls Try.prog 20 #[.slice a n cap] w fun e w' => e = .returned (.bool true) ∧ Below w.heap.size w w' := by
  have hk := drawIsPaired a n cap w hB hn
  have HK := Lib.hid hk
  clear hB hk
  go_enter Try.func20, Try.ntmps20
  go_wp2_with fail
  refine (big_no a n cap w hn).mono ?_
  rintro e w0 ⟨rfl, rfl⟩
  go_wp2_with fail
  refine HK.out.mono ?_
  rintro e w1 ⟨r, L, rfl, hr, hl, hrow, hb⟩
  have B1 := Lib.hid hb
  have S1 := Lib.hid hr
  have HRow : Hid (∀ i, i < L.length → (L.getD i []).length ≤ 1048576) := Lib.hid fun i hi => Nat.le_trans (hrow i hi) (by omega)
  clear HK hb hr hrow
  obtain ⟨q, hq⟩ : ∃ q, picB L = q := ⟨_, rfl⟩
  have HQ := Lib.hid hq
  clear hq
  go_wp2_with fail
  refine (picS_any r L q _ S1.out HRow.out HQ.out).mono ?_
  rintro e w2 ⟨rfl, hb⟩
  have B2 := Lib.hid (B1.out.trans (hb.mono B1.out.size))
  have S2 := Lib.hid (S1.out.below hb)
  clear hb B1 S1
  cases q
  · go_wp2_with fail
    refine (pairedI_any r L false _ S2.out HRow.out HQ.out).mono ?_
    rintro e w3 ⟨rfl, hb⟩
    have hb3 := B2.out.trans (hb.mono B2.out.size)
    clear hb
    go_wp2
    go_ret
    exact ⟨rfl, hb3⟩
  · have hpw := prB_wov HQ.out
    have HPW := Lib.hid hpw
    have hlen : 4 ≤ L.length := by obtain ⟨⟨n1, n2⟩, n3, _⟩ := picB_parts HQ.out; exact n1
    clear hpw
    go_wp2
    go_loopw [4, 5, 6, 7, 8] (fun dv kv _ _ _ wr => ∃ (k : Nat) (d : Bool), k ≤ 2 ∧ kv = .int .i64 k ∧ dv = .bool d ∧ Hid (d = (List.range k).all fun k => wov (fld L k)) ∧ Hid (Below w.heap.size w wr) ∧ Hid (Rp wr r L)) (fun _ kv _ _ _ _ => 2 - (intOf kv).toNat)
    case atStart => exact ⟨0, true, by omega, rfl, rfl, Lib.hid rfl, B2, S2⟩
    case round =>
      obtain ⟨k, d, hk, rfl, rfl, HD, BR, SR⟩ := hrel
      by_cases hk2 : k < 2
      · go_wp2_with fail
        refine (fieldI_any r L k true _ SR.out HRow.out (by omega) HQ.out).mono ?_
        rintro e w3 ⟨f, rfl, hop, hb⟩
        obtain ⟨F, hF⟩ : ∃ F, fld L k = F := ⟨_, rfl⟩
        rw [if_pos rfl, hF] at hop
        obtain ⟨f1, f2⟩ := fld_rows HQ.out (k := k) (by omega)
        rw [hF] at f1 f2
        have hFL : 2 ≤ F.length := by omega
        have hFU : F.length ≤ 16 := by omega
        have hF2 : F.length % 2 = 0 := by
          obtain ⟨_, n3, _⟩ := picB_parts HQ.out
          omega
        have HF := Lib.hid hF
        have HF2 := Lib.hid hF2
        have FR := Lib.hid f2
        have BR3 := Lib.hid (BR.out.trans (hb.mono BR.out.size))
        have SR3 := Lib.hid (SR.out.below hb)
        have hrp := hop.rp
        clear hb hop BR SR f1 f2 hF hF2
        rcases hrp with ⟨e, _⟩ | ⟨b, off, cp, rfl, hc⟩
        · subst e; simp at hFL
        have HC := Lib.hid hc
        clear hc
        go_wp2
        go_loopw [4, 7, 8] (fun dv iv _ wi => ∃ (t i : Nat) (d2 : Bool), i ≤ F.length ∧ Hid (i = 2 * t) ∧ iv = .int .i64 i ∧ dv = .bool d2 ∧ Hid (d2 = (d && (List.range t).all (prw F))) ∧ Hid (Below w3.heap.size w3 wi)) (fun _ iv _ _ => F.length + 1 - (intOf iv).toNat)
        case atStart => exact ⟨0, 0, d, by omega, Lib.hid rfl, rfl, rfl, Lib.hid (by simp), Lib.hid (Below.refl _ _)⟩
        case round =>
          rename World => wi
          obtain ⟨t, i, d2, hi, HI, rfl, rfl, HD2, BI⟩ := hrel
          by_cases hlt : i + 1 < F.length
          · have hlt0 : i < F.length := by omega
            obtain ⟨a1, c1, g1, g2⟩ := HC.out i hlt0
            obtain ⟨a2, c2, g3, g4⟩ := HC.out (i + 1) hlt
            obtain ⟨⟨k1, k2⟩, m3⟩ := FR.out i hlt0
            obtain ⟨⟨k3, k4⟩, m6⟩ := FR.out (i + 1) hlt
            have g1' : wi.cell? ⟨b, off + i, none⟩ = _ := (BI.out.cell (p := ⟨b, off + i, none⟩) (World.block_lt_of_cell? _ _ g1)).trans g1
            have g3' : wi.cell? ⟨b, off + (i + 1), none⟩ = _ := (BI.out.cell (p := ⟨b, off + (i + 1), none⟩) (World.block_lt_of_cell? _ _ g3)).trans g3
            obtain ⟨b1, o1, rfl, h1⟩ := rc_some (g2.below BI.out) (by omega)
            obtain ⟨b2, o2, rfl, h2⟩ := rc_some (g4.below BI.out) (by omega)
            have F1 := Lib.hid h1
            have F2 := Lib.hid h2
            have G1 := Lib.hid g1'
            have G3 := Lib.hid g3'
            have hll : (F.getD (i + 1) []).length = (F.getD i []).length := by omega
            have HPR : Hid (prw F t = (List.range (F.getD i []).length).all (peq F t)) := Lib.hid (by unfold prw; rw [← HI.out])
            have HPW : Hid (∀ j, peq F t j = ceq ((F.getD i []).getD j c0) ((F.getD (i + 1) []).getD j c0)) := Lib.hid fun j => by unfold peq; rw [← HI.out]
            have HS := Lib.hid (range_all_succ (n := t) (p := prw F))
            rw [hll] at F2 G3
            clear g1 g2 g3 g4 g1' g3' h1 h2 k3 k4 m3 m6 hll
            obtain ⟨l, hl⟩ : ∃ l, l = F.getD i [] := ⟨_, rfl⟩
            obtain ⟨l2, hl2⟩ : ∃ l2, l2 = F.getD (i + 1) [] := ⟨_, rfl⟩
            rw [← hl] at k1 k2 F1 F2 G1 G3 HPR HPW
            rw [← hl2] at F2 HPW
            clear hl hl2
            go_wp2
            rw [show decide ((i : Int) + 1 < (F.length : Int)) = true from decide_eq_true (by omega)]
            go_loopw [4, 8] (fun dv jv wj => ∃ (j : Nat) (d3 : Bool), j ≤ l.length ∧ jv = .int .i64 j ∧ dv = .bool d3 ∧ Hid (d3 = (d2 && (List.range j).all (peq F t))) ∧ Hid (Below wi.heap.size wi wj)) (fun _ jv _ => l.length - (intOf jv).toNat)
            case atStart => exact ⟨0, d2, Nat.zero_le _, rfl, rfl, Lib.hid (by simp), Lib.hid (Below.refl _ _)⟩
            case round =>
              rename World => wj
              obtain ⟨j, d3, hj, rfl, rfl, HD3, hbj⟩ := hrel
              have e1 := (hbj.out.cell (p := ⟨b, off + i, none⟩) (World.block_lt_of_cell? _ _ G1.out)).trans G1.out
              by_cases hjl : j < l.length
              · have HS2 := Lib.hid (range_all_succ (n := j) (p := peq F t))
                cases d3
                · have hok : Hid (false = (d2 && (List.range (j + 1)).all (peq F t))) := Lib.hid (by rw [HS2.out, ← Bool.and_assoc, ← HD3.out]; rfl)
                  go_wp2
                  go_region
                  go_wp2
                  go_roundw
                  case rel => exact ⟨j + 1, _, by omega, by go_num, rfl, hok, Lib.hid (by repeat (first | exact hbj.out | refine Below.drew ?_ | refine below_drewN ?_ _))⟩
                  case measure => simp [intOf]; omega
                · have HW := Lib.hid (HPW.out j)
                  obtain ⟨_, r1⟩ := F1.out j hjl
                  obtain ⟨_, r2⟩ := F2.out j hjl
                  rw [← hbj.out.cell (p := ⟨b1, o1 + j * 2 + 1, none⟩) (World.block_lt_of_cell? _ _ r1)] at r1
                  rw [← hbj.out.cell (p := ⟨b2, o2 + j * 2 + 1, none⟩) (World.block_lt_of_cell? _ _ r2)] at r2
                  have e3 := (hbj.out.cell (p := ⟨b, off + (i + 1), none⟩) (World.block_lt_of_cell? _ _ G3.out)).trans G3.out
                  generalize l.getD j c0 = x at *
                  generalize l2.getD j c0 = y at *
                  obtain ⟨x1, x2, x3⟩ := x
                  obtain ⟨y1, y2, y3⟩ := y
                  dsimp only at r1 r2
                  unfold ceq at HW
                  dsimp only at HW
                  by_cases A : (FloatKind.f32.format.order x2 y2 == some .eq) = true
                  · by_cases B : (FloatKind.f32.format.order x3 y3 == some .eq) = true
                    · have hok : Hid (true = (d2 && (List.range (j + 1)).all (peq F t))) := Lib.hid (by rw [HS2.out, ← Bool.and_assoc, ← HD3.out, HW.out, A, B]; rfl)
                      go_wp2
                      go_region
                      go_wp2
                      go_roundw
                      case rel => exact ⟨j + 1, _, by omega, by go_num, rfl, hok, Lib.hid (by repeat (first | exact hbj.out | refine Below.drew ?_ | refine below_drewN ?_ _))⟩
                      case measure => simp [intOf]; omega
                    · have B' : (FloatKind.f32.format.order x3 y3 == some .eq) = false := by simpa using B
                      clear B
                      have hok : Hid (false = (d2 && (List.range (j + 1)).all (peq F t))) := Lib.hid (by rw [HS2.out, ← Bool.and_assoc, ← HD3.out, HW.out, A, B']; rfl)
                      go_wp2
                      go_region
                      go_wp2
                      go_roundw
                      case rel => exact ⟨j + 1, _, by omega, by go_num, rfl, hok, Lib.hid (by repeat (first | exact hbj.out | refine Below.drew ?_ | refine below_drewN ?_ _))⟩
                      case measure => simp [intOf]; omega
                  · have A' : (FloatKind.f32.format.order x2 y2 == some .eq) = false := by simpa using A
                    clear A
                    have hok : Hid (false = (d2 && (List.range (j + 1)).all (peq F t))) := Lib.hid (by rw [HS2.out, ← Bool.and_assoc, ← HD3.out, HW.out, A']; rfl)
                    go_wp2
                    go_region
                    go_wp2
                    go_roundw
                    case rel => exact ⟨j + 1, _, by omega, by go_num, rfl, hok, Lib.hid (by repeat (first | exact hbj.out | refine Below.drew ?_ | refine below_drewN ?_ _))⟩
                    case measure => simp [intOf]; omega
              · have hje : j = l.length := by omega
                subst hje
                have hok : Hid (d3 = (d && (List.range (t + 1)).all (prw F))) := Lib.hid (by rw [HS.out, ← Bool.and_assoc, ← HD2.out, HPR.out, HD3.out])
                have hbi := Lib.hid (BI.out.trans (hbj.out.mono BI.out.size))
                have hie := Lib.hid (show i + 2 = 2 * (t + 1) by have := HI.out; omega)
                go_wp2
                go_roundw
                case rel => exact ⟨t + 1, i + 2, _, by omega, hie, by go_num, rfl, hok, hbi⟩
                case measure => simp [intOf]; omega
          · have hie : i = F.length := by have h1 := HI.out; have h2 := HF2.out; omega
            subst hie
            have hok : Hid (d2 = (List.range (k + 1)).all fun k => wov (fld L k)) := Lib.hid (by
              rw [range_all_succ, ← HD.out, HF.out, HD2.out]
              unfold wov
              rw [show F.length / 2 = t by have := HI.out; omega])
            have hbr := Lib.hid (BR3.out.trans (BI.out.mono BR3.out.size))
            have hsr := Lib.hid (SR3.out.below BI.out)
            go_wp2
            go_roundw
            case rel => exact ⟨k + 1, d2, by omega, by go_num, rfl, hok, hbr, hsr⟩
            case measure => simp [intOf]; omega
      · have hke : k = 2 := by omega
        subst hke
        have hd : d = prB L := by rw [HPW.out, HD.out]; simp [List.range_succ]
        have HD' := Lib.hid hd
        clear hd HD
        go_wp2_with fail
        refine (pairedI_any r L true _ SR.out HRow.out HQ.out).mono ?_
        rintro e w3 ⟨rfl, hb⟩
        rw [Bool.true_and, ← HD'.out]
        have BR3 := Lib.hid (BR.out.trans (hb.mono BR.out.size))
        have SR3 := Lib.hid (SR.out.below hb)
        clear hb BR SR
        go_wp2_with fail
        refine (fieldI_any r L 0 true _ SR3.out HRow.out (by omega) HQ.out).mono ?_
        rintro e w4 ⟨f, rfl, hop, hb⟩
        obtain ⟨F, hF⟩ : ∃ F, fld L 0 = F := ⟨_, rfl⟩
        rw [if_pos rfl, hF] at hop
        obtain ⟨f1, _⟩ := fld_rows HQ.out (k := 0) (by omega)
        rw [hF] at f1
        have hF1 : 0 < F.length := by omega
        obtain ⟨fa, fc, rfl⟩ := hop.rp.form
        have hb4 := BR3.out.trans (hb.mono BR3.out.size)
        clear hb hop BR3 SR3 f1 hF
        go_wp2
        go_ret
        exact ⟨by simp, hb4⟩
set_option maxRecDepth 100000 in
set_option maxHeartbeats 1000000 in
theorem lawPr_big (a : Option Addr) (n cap : Nat) (w : World) (hn : 1048576 < n) :
    Calls Try.prog 20 #[.slice a n cap] w fun e w' => e = .returned (.bool true) ∧ Below w.heap.size w w' := by
  go_enter Try.func20, Try.ntmps20
  go_wp2_with fail
  refine (big_yes a n cap w hn).mono ?_
  rintro e w1 ⟨rfl, rfl⟩
  go_wp2_with fail
  go_ret
  exact ⟨rfl, Below.refl _ _⟩
theorem lawPr (w : World) (a : Option Addr) (n cap : Nat) (_z : Nat) (hB : By w.heap.size w a n) :
    Calls Try.prog 20 #[.slice a n cap] w fun e w' => e = .returned (.bool true) ∧ Below w.heap.size w w' := by
  by_cases h : 1048576 < n
  · exact lawPr_big a n cap w h
  · exact lawPr_small a n cap w hB (by omega)
end Go.Proofs.Ytbjllfnjecggfaa
