/- Walks: ScaleRow by 1; the law FnConjTwice. -/
import Derived.Test.YtbjllfnjecggfaaGc
import Derived.Test.YtbjllfnjecggfaaUj
import Derived.Test.YtbjllfnjecggfaaTv
namespace Go.Proofs.Ytbjllfnjecggfaa
open Go.RowKit

theorem wdc_set {l' l : List CV} (h : l'.map wdc = l.map wdc) {j : Nat} (hj : j < l.length) {c : CV} (hc : wdc c = wdc (l.getD j c0)) : (l'.set j c).map wdc = l.map wdc := by
  rw [List.map_set, h, hc]
  apply List.ext_getElem?
  intro k
  rw [List.getElem?_set]
  split
  · rename_i e; subst e
    simp [List.getD, hj]
  · rfl
theorem allC_set {l' : List CV} (h : allC l' = true) (j : Nat) {c : CV} (hc : cellB c = true) : allC (l'.set j c) = true := by
  unfold allC at *
  rw [List.all_eq_true] at *
  intro x hx
  rcases List.mem_or_eq_of_mem_set hx with h1 | h1
  · exact h x h1
  · rw [h1]; exact hc
theorem allC_at {l : List CV} (h : allC l = true) {j : Nat} (hj : j < l.length) : cellB (l.getD j c0) = true := by
  have e : l.getD j c0 = l[j] := by simp [List.getD, hj]
  rw [e]
  unfold allC at h
  rw [List.all_eq_true] at h
  exact h _ (List.getElem_mem hj)
theorem rowB_all {l : List CV} (h : rowB l = true) : allC l = true := by
  unfold rowB at h
  simp at h
  exact h.2
def ScPost (w : World) (q : Bool) (l : List CV) (e : Ending) (w' : World) : Prop :=
  ∃ r l', e = .returned (.tuple #[r, .bool q]) ∧ Oc w' w.heap.size r l' ∧ (q = true → Swc l' l) ∧ Below w.heap.size w w'
set_option maxRecDepth 100000 in
set_option maxHeartbeats 1000000 in
theorem scale_any (v : Value) (l : List CV) (q : Bool) (w : World) (hR : Rc w v l) (hlen : l.length ≤ 1048576) (hq : rowB l = q) :
    Calls Try.prog 60 #[v, .float .f32 1065353216] w (ScPost w q l) := by
  have HQ := Lib.hid hq
  cases q
  · clear hq
    go_enter Try.func60, Try.ntmps60
    go_wp2_with fail
    refine (rowI_any v l false w hR hlen HQ.out).mono ?_
    rintro e w1 ⟨rfl, hb1⟩
    go_wp2
    go_ret2
    exact ⟨_, [], rfl, World.ownsRow_nil _ _ _ _, by simp, hb1⟩
  · obtain ⟨n1, n2⟩ := rowB_len hq
    have hall := Lib.hid (rowB_all hq)
    clear hq
    go_enter Try.func60, Try.ntmps60
    go_wp2_with fail
    refine (rowI_any v l true w hR hlen HQ.out).mono ?_
    rintro e w1 ⟨rfl, hb1⟩
    have hR1 := hR.below hb1
    go_wp2_with fail
    refine (cloneC_any v l w1 hR1 hlen).mono ?_
    rintro e w2 ⟨r, rfl, hO, hb2⟩
    have hO := own_base hO hb1.size
    have hO : Oc w2 w.heap.size r l := hO
    have hbw2 : Below w.heap.size w w2 := hb1.trans (hb2.mono hb1.size)
    obtain ⟨g, cap, rfl, hBg, hg, _⟩ := oc_form hO n1
    clear hb1 hb2 hR1
    rcases hR with ⟨o, c, rfl, e⟩ | ⟨b, off, cap', rfl, h1, h2, hc⟩
    · subst e; simp at n1
    have HC := Lib.hid hc
    clear hc
    go_wp2
    go_loopw [16, 7, 8] (fun i _ _ wr => ∃ (j : Nat) (l' : List CV), j ≤ l.length ∧ i = .int .i64 j ∧ Hid (l'.map wdc = l.map wdc) ∧ Hid (allC l' = true) ∧ Hid (Oc wr w.heap.size (.slice (some ⟨g, 0, none⟩) l.length cap) l') ∧ Below w.heap.size w wr) (fun i _ _ _ => l.length - (intOf i).toNat)
    case atStart => exact ⟨0, l, Nat.zero_le _, rfl, Lib.hid rfl, hall, Lib.hid hO, hbw2⟩
    case round =>
      obtain ⟨j, l', hj, rfl, hm, ha, hown, hbw⟩ := hrel
      have hll : l'.length = l.length := by have := congrArg List.length hm.out; simpa using this
      by_cases hlt : j < l.length
      · obtain ⟨g', cap'', e', _, hgl, hc⟩ := oc_form hown.out (by omega)
        rw [hll] at e'
        cases e'
        obtain ⟨c1, c2⟩ := hc j (by omega)
        have hf := own_frozen hown.out (j * 2 + 1)
        obtain ⟨d1, d2⟩ := HC.out j hlt
        rw [← hbw.cell (p := ⟨b, off + j * 2, none⟩) (World.block_lt_of_cell? _ _ d1)] at d1
        rw [← hbw.cell (p := ⟨b, off + j * 2 + 1, none⟩) (World.block_lt_of_cell? _ _ d2)] at d2
        have hw1 : wdc (l'.getD j c0) = wdc (l.getD j c0) := (Swc.at (a := l') (b := l) hm.out j (by omega))
        have hb1 : cellB (l.getD j c0) = true := allC_at hall.out hlt
        have hb2 : cellB (l'.getD j c0) = true := allC_at ha.out (by omega)
        obtain ⟨x', hx'⟩ : ∃ x, l'.getD j c0 = x := ⟨_, rfl⟩
        obtain ⟨x, hx⟩ : ∃ x, l.getD j c0 = x := ⟨_, rfl⟩
        rw [hx'] at c1 c2 hw1 hb2
        rw [hx] at d1 d2 hw1 hb1
        obtain ⟨y', re', im'⟩ := x'
        obtain ⟨y, re, im⟩ := x
        dsimp only at c1 c2 d1 d2
        have fin : ∀ (wq : World) (p q : Nat), Below wr.heap.size wr wq → Fl.fv .f32 p = Fl.fop .mul .f32 (Fl.fv .f32 re) (Fl.fv .f32 1065353216) → Fl.fv .f32 q = Fl.fop .mul .f32 (Fl.fv .f32 im) (Fl.fv .f32 1065353216) →
            ∃ l'' : List CV, l''.map wdc = l.map wdc ∧ allC l'' = true ∧ Oc (wq.setCell ⟨g, j * 2 + 1, none⟩ (.complex .f32 p q)) w.heap.size (.slice (some ⟨g, 0, none⟩) l.length cap) l'' := by
          intro wq p q hbq hp hq
          unfold cellB at hb1 hb2
          simp only [Bool.and_eq_true] at hb1 hb2
          obtain ⟨p1, p2⟩ := Fl.mul_one_any hb1.2.1 hp
          obtain ⟨q1, q2⟩ := Fl.mul_one_any hb1.2.2 hq
          refine ⟨l'.set j (y', p, q), wdc_set hm.out hlt ?_, allC_set ha.out j ?_, oc_set (by omega) (own_below hown.out hbq) hx' (by omega) p q⟩
          · rw [hx]
            unfold wdc at hw1 ⊢
            simp only [Prod.mk.injEq] at hw1 ⊢
            exact ⟨hw1.1, p2, q2⟩
          · unfold cellB
            simp only [Bool.and_eq_true]
            exact ⟨hb2.1, p1, q1⟩
        have FIN := Lib.hid fin
        clear fin hown hc hw1 hb1 hb2 hx hx' hm ha
        go_wp2
        go_roundw
        case rel =>
          obtain ⟨l'', f1, f2, f3⟩ := FIN.out ((wr.alloc (.cells #[.float .f32 y, .complex .f32 re im] 48)).drewN (Fl.fcnt .mul .f32 re 1065353216 + Fl.fcnt .mul .f32 im 1065353216)) (Fl.fbits (wr.alloc (.cells #[.float .f32 y, .complex .f32 re im] 48)) .mul .f32 re 1065353216) (Fl.fbits ((wr.alloc (.cells #[.float .f32 y, .complex .f32 re im] 48)).drewN (Fl.fcnt .mul .f32 re 1065353216)) .mul .f32 im 1065353216) (by repeat (first | exact Below.refl _ _ | refine below_drewN ?_ _ | refine Below.alloc ?_ (by simp) _)) (Fl.fv_fbits _ _ _ _ _) (Fl.fv_fbits _ _ _ _ _)
          exact ⟨j + 1, l'', by omega, by go_num, Lib.hid f1, Lib.hid f2, Lib.hid f3, by repeat (first | exact hbw | refine Below.setCell ?_ hBg _ | refine below_drewN ?_ _ | refine Below.alloc ?_ (by have := hbw.size; simp; omega) _)⟩
        case measure => simp [intOf]; omega
      · have hke : j = l.length := by omega
        subst hke
        have hb : Hid (rowB l' = true) := Lib.hid (by unfold rowB; rw [ha.out]; simp; omega)
        have hrc : Hid (Rc wr (.slice (some ⟨g, 0, none⟩) l.length cap) l') := Lib.hid (Oc.rc hown.out)
        go_wp2_with fail
        refine (rowI_any _ l' true _ hrc.out (by omega) hb.out).mono ?_
        rintro e w3 ⟨rfl, hb3⟩
        go_wp2
        go_ret2
        exact ⟨_, l', rfl, own_below hown.out hb3, fun _ => hm.out, hbw.trans (hb3.mono hbw.size)⟩

theorem inRng_neg {x : Nat} (h : Fl.inRng 1132462080 x = true) : Fl.inRng 1132462080 (Op.negFloat .f32 x) = true := by
  obtain ⟨a, h1, h2, h3⟩ := Fl.inRng_sc Fl.sc_256 h
  rw [Fl.inRng_of_sc Fl.sc_256 (Fl.sc_neg .f32 h1), decide_eq_true_eq]
  omega
theorem rowB_conj {l : List CV} (h : rowB l = true) : rowB (l.map conjC) = true := by
  have hn := rowB_len h
  have ha := rowB_all h
  unfold rowB
  rw [List.length_map, decide_eq_true hn, Bool.true_and]
  unfold allC at *
  rw [List.all_eq_true] at *
  intro c hc
  obtain ⟨d, hd, rfl⟩ := List.mem_map.1 hc
  have := ha d hd
  unfold cellB conjC at *
  simp only [Bool.and_eq_true] at *
  exact ⟨this.1, this.2.1, inRng_neg this.2.2⟩
theorem conj_twice (l : List CV) : Swc ((l.map conjC).map conjC) l := by
  unfold Swc
  rw [List.map_map, List.map_map]
  refine List.map_congr_left fun c _ => ?_
  show wdc (conjC (conjC c)) = wdc c
  unfold wdc conjC
  simp only [Fl.widen_negneg]
set_option maxRecDepth 100000 in
set_option maxHeartbeats 1000000 in
theorem lawTwice_small (a : Option Addr) (n cap : Nat) (w : World) (hB : By w.heap.size w a n) (hn : n ≤ 1048576) :
    Calls Try.prog 15 #[.slice a n cap] w fun e w' => e = .returned (.bool true) ∧ Below w.heap.size w w' := by
  have hk := drawConj a n cap w hB hn
  clear hB
  go_enter Try.func15, Try.ntmps15
  go_wp2_with fail
  refine (big_no a n cap w hn).mono ?_
  rintro e w0 ⟨rfl, rfl⟩
  go_wp2_with fail
  refine hk.mono ?_
  rintro e w1 ⟨r, l, rfl, hO, hl65, hb1⟩
  clear hk
  have hr := hO.rc
  obtain ⟨q, hq⟩ : ∃ q, rowB l = q := ⟨_, rfl⟩
  have HQ := Lib.hid hq
  have HR := Lib.hid hr
  clear hO hr
  cases q
  · clear hq
    go_wp2_with fail
    refine (conjI_any r l false _ HR.out (by omega) HQ.out).mono ?_
    rintro e w2 ⟨r2, rfl, hO2, hb2⟩
    rw [if_neg (by simp)] at hO2
    have R1 := Lib.hid (HR.out.below hb2)
    have hb := Lib.hid (hb1.trans (hb2.mono hb1.size))
    have R2 := Lib.hid hO2.rc
    clear hO2 hb2 hb1 HR
    go_wp2_with fail
    refine (conjI_any r2 [] false _ R2.out (by simp) rfl).mono ?_
    rintro e w3 ⟨r3, rfl, hO3, hb3⟩
    rw [if_neg (by simp)] at hO3
    have S1 := Lib.hid (R1.out.below hb3)
    have hb' := Lib.hid (hb.out.trans (hb3.mono hb.out.size))
    obtain ⟨a3, c3, rfl⟩ := hO3.rc.form
    clear hO3 hb3 hb R1 R2
    go_wp2_with fail
    refine (scale_any r l false _ S1.out (by omega) HQ.out).mono ?_
    rintro e w4 ⟨r4, l4, rfl, _, _, hb4⟩
    have T1 := Lib.hid (S1.out.below hb4)
    have hb := Lib.hid (hb'.out.trans (hb4.mono hb'.out.size))
    clear hb4 hb' S1
    go_wp2_with fail
    refine (rowS_any r l false _ T1.out (by omega) HQ.out).mono ?_
    rintro e w5 ⟨rfl, hb5⟩
    have hb' := hb.out.trans (hb5.mono hb.out.size)
    clear hb5 hb
    go_wp2
    go_ret
    exact ⟨rfl, hb'⟩
  · have HQ2 := Lib.hid (rowB_conj hq)
    clear hq
    go_wp2_with fail
    refine (conjI_any r l true _ HR.out (by omega) HQ.out).mono ?_
    rintro e w2 ⟨r2, rfl, hO2, hb2⟩
    rw [if_pos rfl] at hO2
    have R1 := Lib.hid (HR.out.below hb2)
    have hb := Lib.hid (hb1.trans (hb2.mono hb1.size))
    have R2 := Lib.hid hO2.rc
    clear hO2 hb2 hb1 HR
    go_wp2_with fail
    refine (conjI_any r2 (l.map conjC) true _ R2.out (by simp; omega) HQ2.out).mono ?_
    rintro e w3 ⟨r3, rfl, hO3, hb3⟩
    rw [if_pos rfl] at hO3
    have S1 := Lib.hid (R1.out.below hb3)
    have hb' := Lib.hid (hb.out.trans (hb3.mono hb.out.size))
    have S3 := Lib.hid hO3.rc
    clear hO3 hb3 hb R1 R2
    go_wp2_with fail
    refine (scale_any r l true _ S1.out (by omega) HQ.out).mono ?_
    rintro e w4 ⟨r4, l4, rfl, hO4, hs4, hb4⟩
    have T1 := Lib.hid (S1.out.below hb4)
    have T3 := Lib.hid (S3.out.below hb4)
    have T4 := Lib.hid hO4.rc
    have hs := Lib.hid (hs4 rfl)
    have hb := Lib.hid (hb'.out.trans (hb4.mono hb'.out.size))
    clear hb4 hb' S1 S3 hO4 hs4
    go_wp2_with fail
    refine (rowS_any r l true _ T1.out (by omega) HQ.out).mono ?_
    rintro e w5 ⟨rfl, hb5⟩
    have U1 := Lib.hid (T1.out.below hb5)
    have U3 := Lib.hid (T3.out.below hb5)
    have U4 := Lib.hid (T4.out.below hb5)
    have hb' := Lib.hid (hb.out.trans (hb5.mono hb.out.size))
    clear hb5 hb T1 T3 T4
    go_wp2_with fail
    refine (sameRow_any r3 r ((l.map conjC).map conjC) l _ U3.out U1.out (conj_twice l) (by simp; omega)).mono ?_
    rintro e w6 ⟨rfl, hb6⟩
    have V1 := Lib.hid (U1.out.below hb6)
    have V4 := Lib.hid (U4.out.below hb6)
    have hb := Lib.hid (hb'.out.trans (hb6.mono hb'.out.size))
    clear hb6 hb' U1 U3 U4
    go_wp2_with fail
    refine (sameRow_any r4 r l4 l _ V4.out V1.out hs.out (by have := hs.out.len; omega)).mono ?_
    rintro e w7 ⟨rfl, hb7⟩
    have hb' := hb.out.trans (hb7.mono hb.out.size)
    clear hb7 hb V1 V4
    go_wp2
    go_ret
    exact ⟨rfl, hb'⟩
set_option maxRecDepth 100000 in
set_option maxHeartbeats 1000000 in
theorem lawTwice_big (a : Option Addr) (n cap : Nat) (w : World) (hn : 1048576 < n) :
    Calls Try.prog 15 #[.slice a n cap] w fun e w' => e = .returned (.bool true) ∧ Below w.heap.size w w' := by
  go_enter Try.func15, Try.ntmps15
  go_wp2_with fail
  refine (big_yes a n cap w hn).mono ?_
  rintro e w1 ⟨rfl, rfl⟩
  go_wp2_with fail
  go_ret
  exact ⟨rfl, Below.refl _ _⟩
theorem lawTwice (w : World) (a : Option Addr) (n cap : Nat) (_z : Nat) (hB : By w.heap.size w a n) :
    Calls Try.prog 15 #[.slice a n cap] w fun e w' => e = .returned (.bool true) ∧ Below w.heap.size w w' := by
  by_cases h : 1048576 < n
  · exact lawTwice_big a n cap w h
  · exact lawTwice_small a n cap w hB (by omega)
end Go.Proofs.Ytbjllfnjecggfaa
