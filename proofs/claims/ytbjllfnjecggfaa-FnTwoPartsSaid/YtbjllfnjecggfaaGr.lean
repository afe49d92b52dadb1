/- The law FnTwoParts returns true. -/
import Derived.Test.YtbjllfnjecggfaaGq
import Derived.Test.YtbjllfnjecggfaaGo
import Derived.Test.YtbjllfnjecggfaaTv
namespace Go.Proofs.Ytbjllfnjecggfaa
open Go.RowKit

/-- cells without colour, cells without brightness -/
theorem dec_at {xs : List Nat} {T : List T3} {l' : List CV} (h : SR xs T) (hl : l'.map fvc = decl xs false T.length) : l'.length = T.length ∧ ∀ j, j < T.length → At6 (l'.getD j c0).1 (T.getD j t0).1 ∧ At6 (l'.getD j c0).2.1 (T.getD j t0).2.1 ∧ At6 (l'.getD j c0).2.2 (T.getD j t0).2.2 := by
  have hlen : l'.length = T.length := by have := congrArg List.length hl; simpa [decl] using this
  refine ⟨hlen, fun j hj => ?_⟩
  have hj' : j < l'.length := by omega
  obtain ⟨d1, d2, d3⟩ := h.dec hj
  have he : fvc (l'.getD j c0) = decAt xs false j := by
    have h2 := congrArg (fun t => t[j]?) hl
    simp [decl, hj, hj'] at h2
    simp [List.getD, hj', h2]
  rw [← he] at d1 d2 d3
  unfold fvc at d1 d2 d3
  dsimp only at d1 d2 d3
  rw [Fl.sv_fv] at d1 d2 d3
  exact ⟨d1, d2, d3⟩
theorem zero6 {x : Nat} (h : At6 x 0) : (FloatKind.f32.format.order x 0 == some .eq) = true := Fl.eq_of_sc h (show Fl.sc Ieee.single 0 = some (Fl.six 0) from Fl.sc_zero)
theorem ofform {w : World} {B : Nat} {v : Value} {xs : List Nat} {n : Nat} (h : Of w B v xs) (hn : xs.length = n) : ∃ a c, v = .slice a n c := by
  subst hn
  rcases h.rf.split with ⟨o, c, e, e2⟩ | ⟨b, off, cap, e, _⟩
  · rw [e2]; exact ⟨_, _, e⟩
  · exact ⟨_, _, e⟩
set_option maxRecDepth 100000 in
set_option maxHeartbeats 2000000 in
theorem lawParts_small (a : Option Addr) (n cap : Nat) (w : World) (hB : By w.heap.size w a n) (hn : n ≤ 1048576) :
    Calls Try.prog 12 #[.slice a n cap] w fun e w' => e = .returned (.bool true) ∧ Below w.heap.size w w' := by
  have hk := drawPlainRow a n cap w hB hn
  clear hB
  go_enter Try.func12, Try.ntmps12
  go_wp2_with fail
  refine (big_no a n cap w hn).mono ?_
  rintro e w0 ⟨rfl, rfl⟩
  go_wp2_with fail
  refine hk.mono ?_
  rintro e w1 ⟨r, l, rfl, hr, hp, hl1, hl6, hb1⟩
  clear hk
  have HQ := Lib.hid (plRow hp hl1 (by omega))
  have R1 := Lib.hid hr.rc
  have B1 := Lib.hid hb1
  obtain ⟨T, hT, hsr⟩ := sr_enc hp
  clear hr hb1 hp
  go_wp2_with fail
  refine (enc_any _ l false true _ R1.out (by omega) HQ.out).mono ?_
  rintro e w2 ⟨s, rfl, hs, hb⟩
  rw [if_pos rfl] at hs
  have hxl := encL_len l false
  obtain ⟨N, hN⟩ : ∃ N, N = l.length := ⟨_, rfl⟩
  rw [← hN] at hl1 hl6 hT hxl
  have hd : (encL l false).length / 4 = N := by omega
  have B2 := Lib.hid (B1.out.trans (hb.mono B1.out.size))
  have S2 := Lib.hid hs.rf
  generalize encL l false = xs at *
  obtain ⟨sa, sc, rfl⟩ := ofform hs hxl
  have hok : decOk xs false = true := hsr.ok (by omega) (by omega)
  have HOK := Lib.hid hok
  have HSR := Lib.hid hsr
  clear hb hs R1 B1 HQ hok hsr hN
  go_wp2_with fail
  refine (brI_any _ xs true _ S2.out (by omega) HOK.out).mono ?_
  rintro e w3 ⟨y, ys, rfl, hy, hyf, hb⟩
  rw [if_pos rfl, hd, ← hT] at hyf
  have hsy := sr_br HSR.out hyf
  have hyl := hsy.1
  rw [List.length_map, hT] at hyl
  obtain ⟨ya, yc, rfl⟩ := ofform hy hyl
  have S3 := Lib.hid (S2.out.below hb)
  have B3 := Lib.hid (B2.out.trans (hb.mono B2.out.size))
  have Y3 := Lib.hid hy.rf
  have HSY := Lib.hid hsy
  clear hb hy hyf hsy S2 B2
  go_wp2_with fail
  refine (colI_any _ xs true _ S3.out (by omega) HOK.out).mono ?_
  rintro e w4 ⟨c, cs, rfl, hc, hcf, hb⟩
  rw [if_pos rfl, hd, ← hT] at hcf
  have hsc := sr_col HSR.out hcf
  have hcl := hsc.1
  rw [List.length_map, hT] at hcl
  obtain ⟨ca, cc, rfl⟩ := ofform hc hcl
  have S4 := Lib.hid (S3.out.below hb)
  have Y4 := Lib.hid (Y3.out.below hb)
  have B4 := Lib.hid (B3.out.trans (hb.mono B3.out.size))
  have C4 := Lib.hid hc.rf
  have HSC := Lib.hid hsc
  clear hb hc hcf hsc S3 B3 Y3
  go_wp2_with fail
  refine (implAdd_ok _ _ ys cs _ Y4.out C4.out (by omega) (by omega)).mono ?_
  rintro e w5 ⟨z, zs, rfl, hz, hzf, hb⟩
  obtain ⟨hzl, hze⟩ := sum_eq HSR.out HSY.out HSC.out hzf
  have S5 := Lib.hid (S4.out.below hb)
  have Y5 := Lib.hid (Y4.out.below hb)
  have C5 := Lib.hid (C4.out.below hb)
  have B5 := Lib.hid (B4.out.trans (hb.mono B4.out.size))
  have Z5 := Lib.hid hz.rf
  have HZE := Lib.hid hze
  clear hb hz hzf hze S4 B4 Y4 C4
  go_wp2_with fail
  refine (equals_any z _ zs xs _ Z5.out S5.out hzl (fun j hj => HZE.out j (by omega)) (by omega) (by omega)).mono ?_
  rintro e w6 ⟨rfl, hb⟩
  have Y6 := Lib.hid (Y5.out.below hb)
  have C6 := Lib.hid (C5.out.below hb)
  have B6 := Lib.hid (B5.out.trans (hb.mono B5.out.size))
  clear hb S5 Y5 C5 B5 Z5 HZE
  have hoky : Hid (decOk ys false = true) := Lib.hid (HSY.out.ok (by rw [List.length_map]; omega) (by rw [List.length_map]; omega))
  have hokc : Hid (decOk cs false = true) := Lib.hid (HSC.out.ok (by rw [List.length_map]; omega) (by rw [List.length_map]; omega))
  go_wp2_with fail
  refine (decI_all _ ys false true _ Y6.out (by omega) hoky.out).mono ?_
  rintro e w7 ⟨p, lp, rfl, hp, hpf, hb⟩
  rw [if_pos rfl] at hpf
  have hda := dec_at HSY.out (l' := lp) (by rw [List.length_map, hT, hpf]; congr 1; omega)
  rw [List.length_map, hT] at hda
  have C7 := Lib.hid (C6.out.below hb)
  have B7 := Lib.hid (B6.out.trans (hb.mono B6.out.size))
  have P7 := Lib.hid hp.rc
  have HDA := Lib.hid hda.2
  have hpl := hda.1
  clear hb hp hpf hda Y6 C6 B6
  go_wp2_with fail
  refine (decI_all _ cs false true _ C7.out (by omega) hokc.out).mono ?_
  rintro e w8 ⟨q, lq, rfl, hq, hqf, hb⟩
  rw [if_pos rfl] at hqf
  have hda := dec_at HSC.out (l' := lq) (by rw [List.length_map, hT, hqf]; congr 1; omega)
  rw [List.length_map, hT] at hda
  have B8 := Lib.hid (B7.out.trans (hb.mono B7.out.size))
  have P8 := P7.out.below hb
  have Q8 := hq.rc
  have HDB := Lib.hid hda.2
  have hql := hda.1
  clear hb hq hqf hda C7 P7 B7
  rcases P8 with ⟨o, c, rfl, e⟩ | ⟨b1, off1, cap1, rfl, _, _, hc1⟩
  · subst e; rw [List.length_nil] at hpl; omega
  rcases Q8 with ⟨o, c, rfl, e⟩ | ⟨b2, off2, cap2, rfl, _, _, hc2⟩
  · subst e; rw [List.length_nil] at hql; omega
  rw [hpl] at hc1 ⊢
  rw [hql] at hc2 ⊢
  have HC1 := Lib.hid hc1
  have HC2 := Lib.hid hc2
  clear hc1 hc2
  go_wp2
  go_loopw [14] (fun i wr => ∃ j : Nat, j ≤ N ∧ i = .int .i64 j ∧ Below w8.heap.size w8 wr) (fun i _ => N - (intOf i).toNat)
  case atStart => exact ⟨0, Nat.zero_le _, rfl, Below.refl _ _⟩
  case round =>
    obtain ⟨j, hj, rfl, hbw⟩ := hrel
    by_cases hlt : j < N
    · obtain ⟨g1, g2⟩ := HC1.out j hlt
      obtain ⟨g1', g2'⟩ := HC2.out j hlt
      rw [← hbw.cell (p := ⟨b1, off1 + j * 2, none⟩) (World.block_lt_of_cell? _ _ g1)] at g1
      rw [← hbw.cell (p := ⟨b1, off1 + j * 2 + 1, none⟩) (World.block_lt_of_cell? _ _ g2)] at g2
      rw [← hbw.cell (p := ⟨b2, off2 + j * 2, none⟩) (World.block_lt_of_cell? _ _ g1')] at g1'
      rw [← hbw.cell (p := ⟨b2, off2 + j * 2 + 1, none⟩) (World.block_lt_of_cell? _ _ g2')] at g2'
      obtain ⟨_, z1, z2⟩ := HDA.out j hlt
      obtain ⟨z3, _, _⟩ := HDB.out j hlt
      rw [getD_map (a := t0) (by omega)] at z1 z2 z3
      have o1 := zero6 z1
      have o2 := zero6 z2
      have o3 : (FloatKind.f32.format.order (lq.getD j c0).1 0 != some .eq) = false := by rw [bne, zero6 z3]; rfl
      clear z1 z2 z3
      generalize lp.getD j c0 = x at *
      generalize lq.getD j c0 = y at *
      obtain ⟨x1, x2, x3⟩ := x
      obtain ⟨y1, y2, y3⟩ := y
      dsimp only at g1 g2 g1' g2' o1 o2 o3
      go_wp2
      go_roundw
      case rel => exact ⟨j + 1, by omega, by go_num, by repeat (first | exact hbw | refine Below.drew ?_ | refine below_drewN ?_ _)⟩
      case measure => simp [intOf]; omega
    · have hke : j = N := by omega
      subst hke
      have hfin := B8.out.trans (hbw.mono B8.out.size)
      go_wp2
      go_ret
      exact ⟨rfl, hfin⟩
set_option maxRecDepth 100000 in
set_option maxHeartbeats 1000000 in
theorem lawParts_big (a : Option Addr) (n cap : Nat) (w : World) (hn : 1048576 < n) :
    Calls Try.prog 12 #[.slice a n cap] w fun e w' => e = .returned (.bool true) ∧ Below w.heap.size w w' := by
  go_enter Try.func12, Try.ntmps12
  go_wp2_with fail
  refine (big_yes a n cap w hn).mono ?_
  rintro e w1 ⟨rfl, rfl⟩
  go_wp2_with fail
  go_ret
  exact ⟨rfl, Below.refl _ _⟩
theorem lawParts (w : World) (a : Option Addr) (n cap : Nat) (_z : Nat) (hB : By w.heap.size w a n) :
    Calls Try.prog 12 #[.slice a n cap] w fun e w' => e = .returned (.bool true) ∧ Below w.heap.size w w' := by
  by_cases h : 1048576 < n
  · exact lawParts_big a n cap w h
  · exact lawParts_small a n cap w hB (by omega)
end Go.Proofs.Ytbjllfnjecggfaa
