/- Walks: MeanRow, the program's and the reference's. -/
import Derived.Test.YtbjllfnjecggfaaGf
import Derived.Test.YtbjllfnjecggfaaMt
import Derived.Test.YtbjllfnjecggfaaGc
namespace Go.Proofs.Ytbjllfnjecggfaa
open Go.RowKit

set_option maxHeartbeats 400000 in
theorem half_any (x y : Nat) (w : World) (hx : Fl.inRng 1132462080 x = true) (hy : Fl.inRng 1132462080 y = true) :
    Calls Try.prog 112 #[.float .f32 x, .float .f32 y] w fun e w' => e = .returned (.float .f32 (Fl.hv x y)) ∧ w = w' := by
  obtain ⟨p1, p2⟩ := Fl.hv_parts hx hy
  have e1 : ∀ w, Fl.fbits w .add .f32 x y = Fl.sm x y := fun w => Fl.fbits_some p1
  have e2 : ∀ w, Fl.fbits w .quo .f32 (Fl.sm x y) 1073741824 = Fl.hv x y := fun w => Fl.fbits_some p2
  have n1 := Fl.fcnt_some p1
  have n2 := Fl.fcnt_some p2
  clear p1 p2
  go_enter Try.func112, Try.ntmps112
  go_wp2
  go_ret
  exact ⟨rfl, rfl⟩
set_option maxHeartbeats 400000 in
theorem halfS_any (x y : Nat) (w : World) (hx : Fl.inRng 1132462080 x = true) (hy : Fl.inRng 1132462080 y = true) :
    Calls Try.prog 114 #[.float .f32 x, .float .f32 y] w fun e w' => e = .returned (.float .f32 (Fl.hv x y)) ∧ w = w' := by
  obtain ⟨p1, p2⟩ := Fl.hv_parts hx hy
  have e1 : ∀ w, Fl.fbits w .add .f32 x y = Fl.sm x y := fun w => Fl.fbits_some p1
  have e2 : ∀ w, Fl.fbits w .quo .f32 (Fl.sm x y) 1073741824 = Fl.hv x y := fun w => Fl.fbits_some p2
  have n1 := Fl.fcnt_some p1
  have n2 := Fl.fcnt_some p2
  clear p1 p2
  go_enter Try.func114, Try.ntmps114
  go_wp2
  go_ret
  exact ⟨rfl, rfl⟩
set_option maxHeartbeats 400000 in
theorem mean_any (a b c d : Nat) (w : World) (h1 : Fl.inRng 1132462080 a = true) (h2 : Fl.inRng 1132462080 b = true) (h3 : Fl.inRng 1132462080 c = true) (h4 : Fl.inRng 1132462080 d = true) :
    Calls Try.prog 113 #[.complex .f32 a b, .complex .f32 c d] w fun e w' => e = .returned (.complex .f32 (Fl.hv a c) (Fl.hv b d)) ∧ w = w' := by
  have H1 := Lib.hid h1
  have H2 := Lib.hid h2
  have H3 := Lib.hid h3
  have H4 := Lib.hid h4
  clear h1 h2 h3 h4
  go_enter Try.func113, Try.ntmps113
  go_wp2_with fail
  refine (half_any _ _ _ H1.out H3.out).mono ?_
  rintro e w1 ⟨rfl, rfl⟩
  go_wp2_with fail
  refine (half_any _ _ _ H2.out H4.out).mono ?_
  rintro e w1 ⟨rfl, rfl⟩
  go_wp2
  go_ret
  exact ⟨rfl, rfl⟩
/-- half of the sum of two cells -/
def meanC (c d : CV) : CV := (Fl.hv c.1 d.1, Fl.hv c.2.1 d.2.1, Fl.hv c.2.2 d.2.2)
def meanL (a b : List CV) : List CV := List.zipWith meanC a b
theorem meanL_len {a b : List CV} (h : a.length = b.length) : (meanL a b).length = a.length := by simp [meanL, h]
theorem meanL_succ {a b : List CV} (hl : a.length = b.length) {j : Nat} (h : j < a.length) : (meanL a b).take (j + 1) = (meanL a b).take j ++ [meanC (a.getD j c0) (b.getD j c0)] := by
  rw [getDC_take_succ _ _ (by rw [meanL_len hl]; exact h)]
  congr 2
  have hb : j < b.length := by omega
  simp [meanL, List.getD, List.getElem?_zipWith, h, hb]
def okM (a b : List CV) : Bool := rowB a && (rowB b && a.length == b.length)
def MnPost (w : World) (q : Bool) (a b : List CV) (e : Ending) (w' : World) : Prop :=
  ∃ r l, e = .returned (.tuple #[r, .bool q]) ∧ Oc w' w.heap.size r l ∧ (q = true → l = meanL a b) ∧ Below w.heap.size w w'
set_option maxRecDepth 100000 in
set_option maxHeartbeats 1000000 in
theorem meanI_no (u v : Value) (a b : List CV) (w : World) (hU : Rc w u a) (hV : Rc w v b) (ha : a.length ≤ 1048576) (hb : b.length ≤ 1048576) (hq : okM a b = false) :
    Calls Try.prog 64 #[u, v] w (MnPost w false a b) := by
  obtain ⟨pa, ca, rfl⟩ := hU.form
  obtain ⟨pb, cb, rfl⟩ := hV.form
  have HU := Lib.hid hU
  have HV := Lib.hid hV
  obtain ⟨q1, h1⟩ : ∃ q, rowB a = q := ⟨_, rfl⟩
  obtain ⟨q2, h2⟩ : ∃ q, rowB b = q := ⟨_, rfl⟩
  unfold okM at hq
  rw [h1, h2] at hq
  have H1 := Lib.hid h1
  have H2 := Lib.hid h2
  clear h1 h2 hU hV
  cases q1
  · clear hq
    go_enter Try.func64, Try.ntmps64
    go_wp2_with fail
    refine (rowI_any _ a false w HU.out ha H1.out).mono ?_
    rintro e w1 ⟨rfl, hb1⟩
    go_wp2
    go_ret2
    exact ⟨_, [], rfl, World.ownsRow_nil _ _ _ _, by simp, hb1⟩
  · cases q2
    · clear hq
      go_enter Try.func64, Try.ntmps64
      go_wp2_with fail
      refine (rowI_any _ a true w HU.out ha H1.out).mono ?_
      rintro e w1 ⟨rfl, hb1⟩
      have HV1 := Lib.hid (HV.out.below hb1)
      go_wp2_with fail
      refine (rowI_any _ b false w1 HV1.out hb H2.out).mono ?_
      rintro e w2 ⟨rfl, hb2⟩
      go_wp2
      go_ret2
      exact ⟨_, [], rfl, World.ownsRow_nil _ _ _ _, by simp, hb1.trans (hb2.mono hb1.size)⟩
    · have hne : ((a.length : Int) != (b.length : Int)) = true := by
        simp at hq
        rw [bne_iff_ne]
        omega
      clear hq
      go_enter Try.func64, Try.ntmps64
      go_wp2_with fail
      refine (rowI_any _ a true w HU.out ha H1.out).mono ?_
      rintro e w1 ⟨rfl, hb1⟩
      have HV1 := Lib.hid (HV.out.below hb1)
      go_wp2_with fail
      refine (rowI_any _ b true w1 HV1.out hb H2.out).mono ?_
      rintro e w2 ⟨rfl, hb2⟩
      go_wp2
      go_ret2
      exact ⟨_, [], rfl, World.ownsRow_nil _ _ _ _, by simp, hb1.trans (hb2.mono hb1.size)⟩
theorem cellB_parts {c : CV} (h : cellB c = true) : Fl.inRng 1132462080 c.1 = true ∧ Fl.inRng 1132462080 c.2.1 = true ∧ Fl.inRng 1132462080 c.2.2 = true := by
  unfold cellB at h
  simp only [Bool.and_eq_true] at h
  exact h
theorem rowB_at {l : List CV} (h : rowB l = true) {j : Nat} (hj : j < l.length) : cellB (l.getD j c0) = true := by
  have e : l.getD j c0 = l[j] := by simp [List.getD, hj]
  rw [e]
  unfold rowB at h
  simp only [Bool.and_eq_true] at h
  have h := h.2
  unfold allC at h
  rw [List.all_eq_true] at h
  exact h _ (List.getElem_mem hj)
set_option maxRecDepth 100000 in
set_option maxHeartbeats 1000000 in
theorem meanI_yes (u v : Value) (a b : List CV) (w : World) (hU : Rc w u a) (hV : Rc w v b) (ha : rowB a = true) (hb : rowB b = true) (hl : a.length = b.length) :
    Calls Try.prog 64 #[u, v] w (MnPost w true a b) := by
  obtain ⟨i0, hi, hz0, hz1, hz2⟩ := info_parts info48
  obtain ⟨n1, n2⟩ := rowB_len ha
  have HA := Lib.hid ha
  have HB := Lib.hid hb
  have HU := Lib.hid hU
  have HV := Lib.hid hV
  clear ha hb
  rcases hU with ⟨o, c, rfl, e⟩ | ⟨b1, off1, cap1, rfl, g1, g2, hc1⟩
  · subst e; simp at n1
  rcases hV with ⟨o, c, rfl, e⟩ | ⟨b2, off2, cap2, rfl, g1', g2', hc2⟩
  · subst e; rw [List.length_nil] at hl; omega
  have HC1 := Lib.hid hc1
  have HC2 := Lib.hid hc2
  have HL := Lib.hid hl
  have hli : ((a.length : Int) != (b.length : Int)) = false := by simp; omega
  have hlb : b.length ≤ 64 := by omega
  have hlb1 : a.length ≤ b.length := by omega
  have hlb2 : b.length ≤ a.length := by omega
  clear hc1 hc2 hl
  go_enter Try.func64, Try.ntmps64
  go_wp2_with fail
  refine (rowI_any _ a true w HU.out (by omega) HA.out).mono ?_
  rintro e w1 ⟨rfl, hb1⟩
  have HV1 := Lib.hid (HV.out.below hb1)
  go_wp2_with fail
  refine (rowI_any _ b true w1 HV1.out (by omega) HB.out).mono ?_
  rintro e w2 ⟨rfl, hb2⟩
  have hbw2 : Below w.heap.size w w2 := hb1.trans (hb2.mono hb1.size)
  clear hb1 hb2 HV1
  go_wp2
  go_loopw [6, 7, 25] (fun o _ i wr => ∃ (j : Nat) (l : List CV), j ≤ a.length ∧ i = .int .i64 j ∧ l.length = j ∧ Hid (l = (meanL a b).take j) ∧ Oc wr w.heap.size o l ∧ Below w.heap.size w wr) (fun _ _ i _ => a.length - (intOf i).toNat)
  case atStart => exact ⟨0, [], Nat.zero_le _, rfl, rfl, Lib.hid rfl, World.ownsRow_nil _ _ _ _, hbw2⟩
  case round =>
    obtain ⟨j, l, hj, rfl, hlj, hm, hown, hbw⟩ := hrel
    have hbs := hbw.size
    by_cases hlt : j < a.length
    · obtain ⟨d1, d2⟩ := HC1.out j hlt
      obtain ⟨d1', d2'⟩ := HC2.out j (by omega)
      rw [← hbw.cell (p := ⟨b1, off1 + j * 2, none⟩) (World.block_lt_of_cell? _ _ d1)] at d1
      rw [← hbw.cell (p := ⟨b1, off1 + j * 2 + 1, none⟩) (World.block_lt_of_cell? _ _ d2)] at d2
      rw [← hbw.cell (p := ⟨b2, off2 + j * 2, none⟩) (World.block_lt_of_cell? _ _ d1')] at d1'
      rw [← hbw.cell (p := ⟨b2, off2 + j * 2 + 1, none⟩) (World.block_lt_of_cell? _ _ d2')] at d2'
      obtain ⟨p1, p2, p3⟩ := cellB_parts (rowB_at HA.out hlt)
      obtain ⟨p1', p2', p3'⟩ := cellB_parts (rowB_at HB.out (j := j) (by omega))
      have hms := meanL_succ HL.out hlt
      generalize a.getD j c0 = x at *
      generalize b.getD j c0 = y at *
      obtain ⟨y1, re1, im1⟩ := x
      obtain ⟨y2, re2, im2⟩ := y
      dsimp only at d1 d2 d1' d2' p1 p2 p3 p1' p2' p3'
      unfold meanC at hms
      dsimp only at hms
      have P1 := Lib.hid p1
      have P2 := Lib.hid p2
      have P3 := Lib.hid p3
      have Q1 := Lib.hid p1'
      have Q2 := Lib.hid p2'
      have Q3 := Lib.hid p3'
      have HM := Lib.hid hms
      have HJ := Lib.hid hlj
      have hl64 : l.length ≤ 64 := by omega
      have hjb : j < b.length := by omega
      clear p1 p2 p3 p1' p2' p3' hms hlj
      go_wp2
      refine wp_region_move_tail 22 (Operand.tmp 6) (by kernel_rfl) (by kernel_rfl) rfl rfl rfl (fun _ _ _ h => h) ?_
      simp only [List.take_succ_cons, List.take_zero, List.drop_succ_cons, List.drop_zero]
      repeat (first | still_step | still_call (calls_still (half_any _ _ _ P1.out Q1.out)) | still_call (calls_still (mean_any _ _ _ _ _ P2.out P3.out Q2.out Q3.out)))
      refine wpStill_nil ?_
      change wpList _ _ _ _ _ wr.drew
      go_wp2_with (at_builtin; refine wpList_append_own _ rfl _ _ 40 rfl w.heap.size 48 i0 (.agg #[.float .f32 0, .complex .f32 0 0]) 2 12 Try.underlying40 hi hz0 hz1 hz2 rfl (by decide) _ l.length (cells l) rfl (own_below hown ((Below.refl _ _).drew.alloc (Nat.le_refl _) _)) _ 1 1 [.float .f32 (Fl.hv y1 y2), .complex .f32 (Fl.hv re1 re2) (Fl.hv im1 im2)] rfl rfl (cells_cg _ _ _ _ _ _ (by simp)) (by simp [Value.oneCell']) (by unfold maxLen; omega) (by omega) (by simp; omega) ?_; intro v' w3 hown3 hgrow3 _)
      have hb3 : Below w.heap.size w w3 := Below.grown (hbw.drew.alloc (by simpa using hbw.size) _) hgrow3 (by simp; omega) (fun k hk => (hown.lt k hk).1)
      go_roundw
      case rel => exact ⟨j + 1, l ++ [(Fl.hv y1 y2, Fl.hv re1 re2, Fl.hv im1 im2)], by omega, by go_num, by have := HJ.out; simp; omega, Lib.hid (by rw [hm.out, HM.out]), oc_snoc hown3, hb3⟩
      case measure => simp [intOf]; omega
    · have hke : j = a.length := by omega
      subst hke
      have hfin : l = meanL a b := by rw [hm.out]; exact List.take_of_length_le (by rw [meanL_len HL.out]; omega)
      have HFIN := Lib.hid hfin
      clear hfin
      go_wp2
      go_ret2
      exact ⟨_, l, rfl, hown, fun _ => HFIN.out, hbw⟩
end Go.Proofs.Ytbjllfnjecggfaa
