/- The law FnMeanSelf returns true. -/
import Derived.Test.YtbjllfnjecggfaaGi
import Derived.Test.YtbjllfnjecggfaaGe
import Derived.Test.YtbjllfnjecggfaaTv
namespace Go.Proofs.Ytbjllfnjecggfaa
open Go.RowKit

theorem meanI_any (u v : Value) (a b : List CV) (q : Bool) (w : World) (hU : Rc w u a) (hV : Rc w v b) (ha : a.length ≤ 1048576) (hb : b.length ≤ 1048576) (hq : Hid (okM a b = q)) :
    Calls Try.prog 64 #[u, v] w (MnPost w q a b) := by
  cases q
  · exact meanI_no u v a b w hU hV ha hb hq.out
  · have h := hq.out
    unfold okM at h
    simp at h
    exact meanI_yes u v a b w hU hV h.1 h.2.1 h.2.2
theorem meanS_any (u v : Value) (a b : List CV) (q : Bool) (w : World) (hU : Rc w u a) (hV : Rc w v b) (ha : a.length ≤ 1048576) (hb : b.length ≤ 1048576) (hq : Hid (okM a b = q)) :
    Calls Try.prog 65 #[u, v] w (SmPost w q) := by
  cases q
  · exact meanS_no u v a b w hU hV ha hb hq.out
  · have h := hq.out
    unfold okM at h
    simp at h
    exact meanS_yes u v a b w hU hV h.1 h.2.1 h.2.2
theorem okM_self (a : List CV) : okM a a = rowB a := by unfold okM; cases rowB a <;> simp
theorem okM_comm (a b : List CV) : okM b a = okM a b := by
  unfold okM
  have e : (b.length == a.length) = (a.length == b.length) := by rw [Bool.eq_iff_iff]; simp; omega
  rw [e]
  cases rowB a <;> cases rowB b <;> rfl
theorem okM_spec {a b : List CV} (h : okM a b = true) : rowB a = true ∧ rowB b = true ∧ a.length = b.length := by
  unfold okM at h
  simp at h
  exact h
theorem meanL_at {a b : List CV} (hl : a.length = b.length) {j : Nat} (h : j < a.length) : (meanL a b).getD j c0 = meanC (a.getD j c0) (b.getD j c0) := by
  have hb : j < b.length := by omega
  simp [meanL, List.getD, List.getElem?_zipWith, h, hb]
theorem eqc_self {a : List CV} (h : rowB a = true) : Eqc (meanL a a) a := by
  refine ⟨meanL_len rfl, fun j hj => ?_⟩
  rw [meanL_len rfl] at hj
  rw [meanL_at rfl hj]
  obtain ⟨p1, p2, p3⟩ := cellB_parts (rowB_at h hj)
  exact ⟨Fl.hv_self p1, Fl.hv_self p2, Fl.hv_self p3⟩
theorem eqc_comm {a b : List CV} (h : okM a b = true) : Eqc (meanL a b) (meanL b a) := by
  obtain ⟨ha, hb, hl⟩ := okM_spec h
  refine ⟨by rw [meanL_len hl, meanL_len hl.symm]; exact hl, fun j hj => ?_⟩
  rw [meanL_len hl] at hj
  rw [meanL_at hl hj, meanL_at hl.symm (by omega)]
  obtain ⟨p1, p2, p3⟩ := cellB_parts (rowB_at ha hj)
  obtain ⟨q1, q2, q3⟩ := cellB_parts (rowB_at hb (j := j) (by omega))
  refine ⟨?_, ?_, ?_⟩
  · show oeq (Fl.hv _ _) (Fl.hv _ _)
    rw [Fl.hv_comm (b.getD j c0).1]; exact Fl.oeq_self (Fl.hv_notNaN p1 q1)
  · show oeq (Fl.hv _ _) (Fl.hv _ _)
    rw [Fl.hv_comm (b.getD j c0).2.1]; exact Fl.oeq_self (Fl.hv_notNaN p2 q2)
  · show oeq (Fl.hv _ _) (Fl.hv _ _)
    rw [Fl.hv_comm (b.getD j c0).2.2]; exact Fl.oeq_self (Fl.hv_notNaN p3 q3)
set_option maxRecDepth 100000 in
set_option maxHeartbeats 2000000 in
theorem lawMean_small (a : Option Addr) (n cap : Nat) (w : World) (hB : By w.heap.size w a n) (hn : n ≤ 1048576) :
    Calls Try.prog 16 #[.slice a n cap] w fun e w' => e = .returned (.bool true) ∧ Below w.heap.size w w' := by
  have hk := drawMean a n cap w hB hn
  clear hB
  go_enter Try.func16, Try.ntmps16
  go_wp2_with fail
  refine (big_no a n cap w hn).mono ?_
  rintro e w0 ⟨rfl, rfl⟩
  go_wp2_with fail
  refine hk.mono ?_
  rintro e w1 ⟨r, s, l, m, rfl, hr, hs, hl, hm, hb1⟩
  clear hk
  obtain ⟨q1, hq1⟩ : ∃ q, rowB l = q := ⟨_, rfl⟩
  obtain ⟨q2, hq2⟩ : ∃ q, okM l m = q := ⟨_, rfl⟩
  have himp : q2 = true → q1 = true := fun e => by rw [← hq1]; exact (okM_spec (hq2.trans e)).1
  have H1 := Lib.hid hq1
  have HL := Lib.hid ((okM_self l).trans hq1)
  have HLM := Lib.hid hq2
  have HML := Lib.hid ((okM_comm l m).trans hq2)
  have R1 := Lib.hid hr
  have S1 := Lib.hid hs
  have B1 := Lib.hid hb1
  clear hq1 hq2 hr hs hb1
  go_wp2_with fail
  refine (meanI_any r r l l q1 _ R1.out R1.out (by omega) (by omega) HL).mono ?_
  rintro e w2 ⟨x, lx, rfl, hx, hxl, hb⟩
  have R2 := Lib.hid (R1.out.below hb)
  have S2 := Lib.hid (S1.out.below hb)
  have X2 := Lib.hid hx.rc
  have B2 := Lib.hid (B1.out.trans (hb.mono B1.out.size))
  have HXL := Lib.hid hxl
  clear R1 S1 B1 hx hxl hb
  go_wp2_with fail
  refine (meanI_any r s l m q2 _ R2.out S2.out (by omega) (by omega) HLM).mono ?_
  rintro e w3 ⟨y, ly, rfl, hy, hyl, hb⟩
  have R3 := Lib.hid (R2.out.below hb)
  have S3 := Lib.hid (S2.out.below hb)
  have X3 := Lib.hid (X2.out.below hb)
  have Y3 := Lib.hid hy.rc
  have B3 := Lib.hid (B2.out.trans (hb.mono B2.out.size))
  have HYL := Lib.hid hyl
  clear R2 S2 X2 B2 hy hyl hb
  go_wp2_with fail
  refine (meanI_any s r m l q2 _ S3.out R3.out (by omega) (by omega) HML).mono ?_
  rintro e w4 ⟨z, lz, rfl, hz, hzl, hb⟩
  have R4 := Lib.hid (R3.out.below hb)
  have S4 := Lib.hid (S3.out.below hb)
  have X4 := Lib.hid (X3.out.below hb)
  have Y4 := Lib.hid (Y3.out.below hb)
  have Z4 := Lib.hid hz.rc
  have B4 := Lib.hid (B3.out.trans (hb.mono B3.out.size))
  have HZL := Lib.hid hzl
  clear R3 S3 X3 Y3 B3 hz hzl hb
  go_wp2_with fail
  refine (meanS_any r s l m q2 _ R4.out S4.out (by omega) (by omega) HLM).mono ?_
  rintro e w5 ⟨_, rfl, hb⟩
  have R5 := Lib.hid (R4.out.below hb)
  have X5 := Lib.hid (X4.out.below hb)
  have Y5 := Lib.hid (Y4.out.below hb)
  have Z5 := Lib.hid (Z4.out.below hb)
  have B5 := Lib.hid (B4.out.trans (hb.mono B4.out.size))
  clear R4 S4 X4 Y4 Z4 B4 hb
  go_wp2_with fail
  refine (rowS_any r l q1 _ R5.out (by omega) H1.out).mono ?_
  rintro e w6 ⟨rfl, hb⟩
  have R6 := Lib.hid (R5.out.below hb)
  have X6 := Lib.hid (X5.out.below hb)
  have Y6 := Lib.hid (Y5.out.below hb)
  have Z6 := Lib.hid (Z5.out.below hb)
  have B6 := Lib.hid (B5.out.trans (hb.mono B5.out.size))
  clear R5 X5 Y5 Z5 B5 hb
  cases q1
  · have hq2f : q2 = false := by
      cases q2
      · rfl
      · exact absurd (himp rfl) (by simp)
    subst hq2f
    go_wp2
    go_ret
    exact ⟨rfl, B6.out⟩
  · have hsx : Hid (Eqc lx l) := Lib.hid (by rw [HXL.out rfl]; exact eqc_self H1.out)
    cases q2
    · go_wp2_with fail
      refine (equalRow_any x r lx l _ X6.out R6.out hsx.out (by have := hsx.out.1; omega)).mono ?_
      rintro e w7 ⟨rfl, hb⟩
      have B7 := B6.out.trans (hb.mono B6.out.size)
      clear hb
      go_wp2
      go_ret
      exact ⟨rfl, B7⟩
    · have hsy : Hid (Eqc ly lz) := Lib.hid (by rw [HYL.out rfl, HZL.out rfl]; exact eqc_comm HLM.out)
      have hly : Hid (ly.length ≤ 65) := Lib.hid (by rw [HYL.out rfl, meanL_len (okM_spec HLM.out).2.2]; exact hl)
      go_wp2_with fail
      refine (equalRow_any x r lx l _ X6.out R6.out hsx.out (by have := hsx.out.1; omega)).mono ?_
      rintro e w7 ⟨rfl, hb⟩
      have Y7 := Lib.hid (Y6.out.below hb)
      have Z7 := Lib.hid (Z6.out.below hb)
      have B7 := Lib.hid (B6.out.trans (hb.mono B6.out.size))
      clear hb R6 X6 Y6 Z6 B6
      go_wp2_with fail
      refine (equalRow_any y z ly lz _ Y7.out Z7.out hsy.out (by have := hly.out; omega)).mono ?_
      rintro e w8 ⟨rfl, hb⟩
      have B8 := B7.out.trans (hb.mono B7.out.size)
      clear hb
      go_wp2
      go_ret
      exact ⟨rfl, B8⟩
set_option maxRecDepth 100000 in
set_option maxHeartbeats 1000000 in
theorem lawMean_big (a : Option Addr) (n cap : Nat) (w : World) (hn : 1048576 < n) :
    Calls Try.prog 16 #[.slice a n cap] w fun e w' => e = .returned (.bool true) ∧ Below w.heap.size w w' := by
  go_enter Try.func16, Try.ntmps16
  go_wp2_with fail
  refine (big_yes a n cap w hn).mono ?_
  rintro e w1 ⟨rfl, rfl⟩
  go_wp2_with fail
  go_ret
  exact ⟨rfl, Below.refl _ _⟩
theorem lawMean (w : World) (a : Option Addr) (n cap : Nat) (_z : Nat) (hB : By w.heap.size w a n) :
    Calls Try.prog 16 #[.slice a n cap] w fun e w' => e = .returned (.bool true) ∧ Below w.heap.size w w' := by
  by_cases h : 1048576 < n
  · exact lawMean_big a n cap w h
  · exact lawMean_small a n cap w hB (by omega)
end Go.Proofs.Ytbjllfnjecggfaa
