/- Walks: MeanRow, the reference's; the drawing of two rows. -/
import Derived.Test.YtbjllfnjecggfaaGh
import Derived.Test.YtbjllfnjecggfaaUj
namespace Go.Proofs.Ytbjllfnjecggfaa
open Go.RowKit

def SmPost (w : World) (q : Bool) (e : Ending) (w' : World) : Prop :=
  ∃ r, e = .returned (.tuple #[r, .bool q]) ∧ Below w.heap.size w w'
set_option maxRecDepth 100000 in
set_option maxHeartbeats 1000000 in
theorem meanS_no (u v : Value) (a b : List CV) (w : World) (hU : Rc w u a) (hV : Rc w v b) (ha : a.length ≤ 1048576) (hb : b.length ≤ 1048576) (hq : okM a b = false) :
    Calls Try.prog 65 #[u, v] w (SmPost w false) := by
  obtain ⟨pa, ca, rfl⟩ := hU.form
  obtain ⟨pb, cb, rfl⟩ := hV.form
  have hbA : Below w.heap.size w (w.alloc (.cells #[] 48)) := (Below.refl _ _).alloc (Nat.le_refl _) _
  have HU := Lib.hid (hU.below hbA)
  have HV := Lib.hid (hV.below hbA)
  have HBA := Lib.hid hbA
  obtain ⟨q1, h1⟩ : ∃ q, rowB a = q := ⟨_, rfl⟩
  obtain ⟨q2, h2⟩ : ∃ q, rowB b = q := ⟨_, rfl⟩
  unfold okM at hq
  rw [h1, h2] at hq
  have H1 := Lib.hid h1
  have H2 := Lib.hid h2
  clear h1 h2 hU hV hbA
  cases q1
  · clear hq
    go_enter Try.func65, Try.ntmps65
    go_wp2_with fail
    refine (rowS_any _ a false _ HU.out ha H1.out).mono ?_
    rintro e w1 ⟨rfl, hb1⟩
    go_wp2
    go_ret2
    exact ⟨_, rfl, HBA.out.trans (hb1.mono HBA.out.size)⟩
  · cases q2
    · clear hq
      go_enter Try.func65, Try.ntmps65
      go_wp2_with fail
      refine (rowS_any _ a true _ HU.out ha H1.out).mono ?_
      rintro e w1 ⟨rfl, hb1⟩
      have HV1 := Lib.hid (HV.out.below hb1)
      have HB1 := Lib.hid (HBA.out.trans (hb1.mono HBA.out.size))
      clear hb1
      go_wp2_with fail
      refine (rowS_any _ b false w1 HV1.out hb H2.out).mono ?_
      rintro e w2 ⟨rfl, hb2⟩
      go_wp2
      go_ret2
      exact ⟨_, rfl, HB1.out.trans (hb2.mono HB1.out.size)⟩
    · have hne : ((a.length : Int) != (b.length : Int)) = true := by
        simp at hq
        rw [bne_iff_ne]
        omega
      clear hq
      go_enter Try.func65, Try.ntmps65
      go_wp2_with fail
      refine (rowS_any _ a true _ HU.out ha H1.out).mono ?_
      rintro e w1 ⟨rfl, hb1⟩
      have HV1 := Lib.hid (HV.out.below hb1)
      have HB1 := Lib.hid (HBA.out.trans (hb1.mono HBA.out.size))
      clear hb1
      go_wp2_with fail
      refine (rowS_any _ b true w1 HV1.out hb H2.out).mono ?_
      rintro e w2 ⟨rfl, hb2⟩
      go_wp2
      go_ret2
      exact ⟨_, rfl, HB1.out.trans (hb2.mono HB1.out.size)⟩
set_option maxRecDepth 100000 in
set_option maxHeartbeats 1000000 in
theorem meanS_yes (u v : Value) (a b : List CV) (w : World) (hU : Rc w u a) (hV : Rc w v b) (ha : rowB a = true) (hb : rowB b = true) (hl : a.length = b.length) :
    Calls Try.prog 65 #[u, v] w (SmPost w true) := by
  obtain ⟨i0, hi, hz0, hz1, hz2⟩ := info_parts info48
  obtain ⟨n1, n2⟩ := rowB_len ha
  have HA := Lib.hid ha
  have HB := Lib.hid hb
  have hbA : Below w.heap.size w (w.alloc (.cells #[] 48)) := (Below.refl _ _).alloc (Nat.le_refl _) _
  have HU := Lib.hid (hU.below hbA)
  have HV := Lib.hid (hV.below hbA)
  have HBA := Lib.hid hbA
  clear ha hb hbA
  rcases hU with ⟨o, c, rfl, e⟩ | ⟨b1, off1, cap1, rfl, g1, g2, hc1⟩
  · subst e; simp at n1
  rcases hV with ⟨o, c, rfl, e⟩ | ⟨b2, off2, cap2, rfl, g1', g2', hc2⟩
  · subst e; rw [List.length_nil] at hl; omega
  have HC1 := Lib.hid hc1
  have HC2 := Lib.hid hc2
  have hli : ((a.length : Int) != (b.length : Int)) = false := by simp; omega
  have hlb : b.length ≤ 64 := by omega
  have hlb1 : a.length ≤ b.length := by omega
  have hlb2 : b.length ≤ a.length := by omega
  clear hc1 hc2 hl
  go_enter Try.func65, Try.ntmps65
  go_wp2_with fail
  refine (rowS_any _ a true _ HU.out (by omega) HA.out).mono ?_
  rintro e w1 ⟨rfl, hb1⟩
  have HV1 := Lib.hid (HV.out.below hb1)
  have HB1 := Lib.hid (HBA.out.trans (hb1.mono HBA.out.size))
  have hO1 : Oc w1 w.heap.size (.slice (some ⟨w.heap.size, 0, none⟩) 0 0) [] := own_below (oc_nil w) hb1
  clear hb1
  go_wp2_with fail
  refine (rowS_any _ b true w1 HV1.out (by omega) HB.out).mono ?_
  rintro e w2 ⟨rfl, hb2⟩
  have hbw2 : Below w.heap.size w w2 := HB1.out.trans (hb2.mono HB1.out.size)
  have hO2 : Oc w2 w.heap.size (.slice (some ⟨w.heap.size, 0, none⟩) 0 0) [] := own_below hO1 hb2
  clear HB1 hb2 HV1 hO1
  go_wp2
  go_loopw [6, 7, 8] (fun o i _ wr => ∃ (j : Nat) (l : List CV), j ≤ a.length ∧ i = .int .i64 j ∧ l.length = j ∧ Oc wr w.heap.size o l ∧ Below w.heap.size w wr) (fun _ i _ _ => a.length - (intOf i).toNat)
  case atStart => exact ⟨0, [], Nat.zero_le _, rfl, rfl, hO2, hbw2⟩
  case round =>
    obtain ⟨j, l, hj, rfl, hlj, hown, hbw⟩ := hrel
    have hbs := hbw.size
    by_cases hlt : j < a.length
    · obtain ⟨d1, d2⟩ := HC1.out j hlt
      obtain ⟨d1', d2'⟩ := HC2.out j (by omega)
      rw [← hbw.cell (p := ⟨b1, off1 + j * 2, none⟩) (World.block_lt_of_cell? _ _ d1)] at d1
      rw [← hbw.cell (p := ⟨b1, off1 + j * 2 + 1, none⟩) (World.block_lt_of_cell? _ _ d2)] at d2
      rw [← hbw.cell (p := ⟨b2, off2 + j * 2, none⟩) (World.block_lt_of_cell? _ _ d1')] at d1'
      rw [← hbw.cell (p := ⟨b2, off2 + j * 2 + 1, none⟩) (World.block_lt_of_cell? _ _ d2')] at d2'
      obtain ⟨p1, p2, p3⟩ := cellB_parts (rowB_at HA.out hlt)
      obtain ⟨p1', p2', p3'⟩ := cellB_parts (rowB_at HB.out (j := j) (by omega))
      generalize a.getD j c0 = x at *
      generalize b.getD j c0 = y at *
      obtain ⟨y1, re1, im1⟩ := x
      obtain ⟨y2, re2, im2⟩ := y
      dsimp only at d1 d2 d1' d2' p1 p2 p3 p1' p2' p3'
      have P1 := Lib.hid p1
      have P2 := Lib.hid p2
      have P3 := Lib.hid p3
      have Q1 := Lib.hid p1'
      have Q2 := Lib.hid p2'
      have Q3 := Lib.hid p3'
      have HJ := Lib.hid hlj
      have hl64 : l.length ≤ 64 := by omega
      have hjb : j < b.length := by omega
      clear p1 p2 p3 p1' p2' p3' hlj
      go_wp2
      refine wp_region_still_lit (by kernel_rfl) (by kernel_rfl) ?_
      repeat (first | still_step | still_call (calls_still (halfS_any _ _ _ P2.out Q2.out)) | still_call (calls_still (halfS_any _ _ _ P3.out Q3.out)))
      refine wpStill_nil ?_
      change Exit.then _ _ _ _ wr.drew
      go_wp2
      refine wp_region_move_tail 12 (Operand.tmp 6) (by kernel_rfl) (by kernel_rfl) rfl rfl rfl (fun _ _ _ h => h) ?_
      simp only [List.take_succ_cons, List.take_zero, List.drop_succ_cons, List.drop_zero]
      repeat (first | still_step | still_call (calls_still (halfS_any _ _ _ P1.out Q1.out)))
      refine wpStill_nil ?_
      change wpList _ _ _ _ _ wr.drew.drew
      go_wp2_with (at_builtin; refine wpList_append_own _ rfl _ _ 40 rfl w.heap.size 48 i0 (.agg #[.float .f32 0, .complex .f32 0 0]) 2 12 Try.underlying40 hi hz0 hz1 hz2 rfl (by decide) _ l.length (cells l) rfl (own_below hown ((Below.refl _ _).drew.drew.alloc (Nat.le_refl _) _)) _ 1 1 [.float .f32 (Fl.hv y1 y2), .complex .f32 (Fl.hv re1 re2) (Fl.hv im1 im2)] rfl rfl (cells_cg _ _ _ _ _ _ (by simp)) (by simp [Value.oneCell']) (by unfold maxLen; omega) (by omega) (by simp; omega) ?_; intro v' w3 hown3 hgrow3 _)
      have hb3 : Below w.heap.size w w3 := Below.grown (hbw.drew.drew.alloc (by simpa using hbw.size) _) hgrow3 (by simp; omega) (fun k hk => (hown.lt k hk).1)
      go_roundw
      case rel => exact ⟨j + 1, l ++ [(Fl.hv y1 y2, Fl.hv re1 re2, Fl.hv im1 im2)], by omega, by go_num, by have := HJ.out; simp; omega, oc_snoc hown3, hb3⟩
      case measure => simp [intOf]; omega
    · have hke : j = a.length := by omega
      subst hke
      go_wp2
      go_ret2
      exact ⟨_, rfl, hbw⟩

/-- two rows that are drawn -/
def RrPost (w : World) (e : Ending) (w' : World) : Prop := ∃ r s l m, e = .returned (.tuple #[r, s]) ∧ Rc w' r l ∧ Rc w' s m ∧ l.length ≤ 65 ∧ m.length ≤ 65 ∧ Below w.heap.size w w'
set_option maxRecDepth 100000 in
set_option maxHeartbeats 1000000 in
theorem drawMean (a : Option Addr) (n cap : Nat) (w : World) (hB : By w.heap.size w a n) (hn : n ≤ 1048576) :
    Calls Try.prog 63 #[.slice a n cap] w (RrPost w) := by
  go_enter Try.func63, Try.ntmps63
  go_wp2_with fail
  refine (new_any w.heap.size a n cap w hB hn (Nat.le_refl _)).mono ?_
  rintro e w1 ⟨g, rfl, hc, hg1, hg2, hb1⟩
  have HC := Lib.hid hc
  clear hc
  go_wp2_with fail
  refine (any_any _ g a n cap _ HC.out).mono ?_
  rintro e w2 ⟨r, l, rfl, hr, hl, hc, ho⟩
  have hb2 : Below w.heap.size w w2 := hb1.trans (below_of_only ho hb1.size (fun k hk => by omega))
  have HC2 := Lib.hid hc
  have hgr : ∀ k, r.ownBlock = some k → g ≠ k := fun k hk e => by
    have := (hr.lt k hk).1
    have := HC.out.lt
    omega
  have HG := Lib.hid hgr
  have HR := Lib.hid hr
  have HB2 := Lib.hid hb2
  obtain ⟨ra, rc, rfl⟩ := hr.rc.form
  clear hc ho HC hb2 hgr hr hb1
  go_wp2_with fail
  refine (once_any _ g a n cap _ _ HC2.out (by omega) (by omega)).mono ?_
  rintro e w3 ⟨q, rfl, hc, ho⟩
  have HC3 := Lib.hid hc
  have HR3 := Lib.hid (ho.kept HR.out HG.out)
  have HB3 := Lib.hid (HB2.out.trans (below_of_only ho HB2.out.size (fun k hk => by omega)))
  clear HC2 HR HB2 hc ho
  cases q
  · go_wp2_with fail
    refine (cells_any _ g a n cap l.length _ HC3.out hl).mono ?_
    rintro e w4 ⟨s, m, rfl, hs, hm, hc, ho⟩
    have h1 := ho.kept HR3.out HG.out
    have hb4 := HB3.out.trans (below_of_only ho HB3.out.size (fun k hk => by omega))
    clear hc ho HC3 HR3 HB3
    go_wp2
    go_ret2
    exact ⟨_, _, l, m, rfl, Oc.rc h1, hs.rc, hl, by omega, hb4⟩
  · go_wp2_with fail
    refine (any_any _ g a n cap _ HC3.out).mono ?_
    rintro e w4 ⟨s, m, rfl, hs, hm, hc, ho⟩
    have h1 := ho.kept HR3.out HG.out
    have hb4 := HB3.out.trans (below_of_only ho HB3.out.size (fun k hk => by omega))
    clear hc ho HC3 HR3 HB3
    go_wp2
    go_ret2
    exact ⟨_, _, l, m, rfl, Oc.rc h1, hs.rc, hl, hm, hb4⟩
end Go.Proofs.Ytbjllfnjecggfaa
