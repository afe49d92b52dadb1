/- Walks: EncodeCells, sameSamples; the drawing of a row and a bit. The law FnOddConjugate returns true. -/
import Derived.Test.YtbjllfnjecggfaaGk
import Derived.Test.YtbjllfnjecggfaaGd
namespace Go.Proofs.Ytbjllfnjecggfaa
open Go.RowKit

theorem enc_odd (l : List CV) : encL (l.map conjC) false = encL l true := by
  unfold encL
  rw [List.flatMap_map]
  rfl
/-- what singles are, as doubles -/
def Sw (a b : List Nat) : Prop := a.map (fun x => Fl.widen (Fl.fv .f32 x)) = b.map (fun x => Fl.widen (Fl.fv .f32 x))
theorem Sw.len {a b : List Nat} (h : Sw a b) : a.length = b.length := by have := congrArg List.length h; simpa using this
theorem Sw.at {a b : List Nat} (h : Sw a b) (j : Nat) (hj : j < a.length) : Fl.widen (Fl.fv .f32 (a.getD j 0)) = Fl.widen (Fl.fv .f32 (b.getD j 0)) := by
  have hl := h.len
  have h2 := congrArg (fun l => l[j]?) h
  simp [hj, hl ▸ hj] at h2
  simp [List.getD, hj, hl ▸ hj, h2]
set_option maxRecDepth 100000 in
set_option maxHeartbeats 1000000 in
theorem sameSamples_any (u v : Value) (xs ys : List Nat) (w : World) (hU : Rf w u xs) (hV : Rf w v ys) (hs : Sw xs ys) (hlen : xs.length ≤ 1048576) :
    Calls Try.prog 67 #[u, v] w fun e w' => e = .returned (.bool true) ∧ Below w.heap.size w w' := by
  have hl := hs.len
  by_cases h0 : xs.length = 0
  · have hx : xs = [] := List.eq_nil_of_length_eq_zero h0
    have hy : ys = [] := List.eq_nil_of_length_eq_zero (by omega)
    subst hx hy
    clear hs hl h0
    rcases hU.split with ⟨o, c, rfl, _⟩ | ⟨b, off, cap, rfl, _, _, _⟩ <;> rcases hV.split with ⟨o', c', rfl, _⟩ | ⟨b', off', cap', rfl, _, _, _⟩
    all_goals
      go_enter Try.func67, Try.ntmps67
      go_wp2
      refine wp_loop_rounds 1 ?_
      rw [rounds_succ]
      go_wp2
      go_ret
      exact ⟨rfl, Below.refl _ _⟩
  · rcases hU.split with ⟨o, c, rfl, e⟩ | ⟨b, off, cap, rfl, h1, h2, hc⟩
    · subst e; simp at h0
    rcases hV.split with ⟨o', c', rfl, e⟩ | ⟨b', off', cap', rfl, h1', h2', hc'⟩
    · subst e; simp at hl; subst hl; simp at h0
    rw [← hl] at h1' hc' ⊢
    have HC := Lib.hid hc
    have HC' := Lib.hid hc'
    clear hc hc' hl h0 hU hV
    go_enter Try.func67, Try.ntmps67
    go_wp2
    go_loopw [5] (fun i wr => ∃ j : Nat, j ≤ xs.length ∧ i = .int .i64 j ∧ Below w.heap.size w wr) (fun i _ => xs.length - (intOf i).toNat)
    case atStart => exact ⟨0, Nat.zero_le _, rfl, Below.refl _ _⟩
    case round =>
      obtain ⟨j, hj, rfl, hbw⟩ := hrel
      by_cases hlt : j < xs.length
      · have g1 := HC.out j hlt
        have g2 := HC'.out j hlt
        rw [← hbw.cell (p := ⟨b, off + j, none⟩) (World.block_lt_of_cell? _ _ g1)] at g1
        rw [← hbw.cell (p := ⟨b', off' + j, none⟩) (World.block_lt_of_cell? _ _ g2)] at g2
        have hsm := Lib.hid (hs.at j hlt)
        generalize xs.getD j 0 = x at *
        generalize ys.getD j 0 = y at *
        have r1 := cell_regrown g1
        have r2 := cell_regrown g2
        have HF : ∀ d os, Calls Try.prog 108 #[.float .f32 x, .float .f32 y] (Sort.grow (redrawn wr d) os) fun e w'' => e = .returned (.bool true) ∧ ∃ p : Regrown, w'' = Sort.grow (redrawn wr p.d) p.os := fun d os => Calls.regrown_of (same32_any x y _ hsm.out)
        go_wp2_with fail
        refine wp_region_quiet_below (by kernel_rfl) (by kernel_rfl) ?_
        repeat (quiet_step (exact HF _ _))
        refine wpQuiet_nil ?_
        intro _ hw2
        obtain ⟨⟨dq, osq⟩, hw3⟩ := hw2
        subst hw3
        have hb1 := Lib.hid (below_regrown wr dq osq)
        clear HF r1 r2
        go_wp2
        go_roundw
        case rel => exact ⟨j + 1, by omega, by go_num, hbw.trans (hb1.out.mono hbw.size)⟩
        case measure => simp [intOf]; omega
      · have hke : j = xs.length := by omega
        subst hke
        go_wp2
        go_ret
        exact ⟨rfl, hbw⟩
/-- a row that is drawn, and a bit -/
def RqPost (w : World) (e : Ending) (w' : World) : Prop := ∃ r l q, e = .returned (.tuple #[r, .bool q]) ∧ Rc w' r l ∧ l.length ≤ 65 ∧ Below w.heap.size w w'
set_option maxRecDepth 100000 in
set_option maxHeartbeats 1000000 in
theorem drawEnc (a : Option Addr) (n cap : Nat) (w : World) (hB : By w.heap.size w a n) (hn : n ≤ 1048576) :
    Calls Try.prog 71 #[.slice a n cap] w (RqPost w) := by
  go_enter Try.func71, Try.ntmps71
  go_wp2_with fail
  refine (new_any w.heap.size a n cap w hB hn (Nat.le_refl _)).mono ?_
  rintro e w1 ⟨g, rfl, hc, hg1, hg2, hb1⟩
  have HC := Lib.hid hc
  clear hc
  go_wp2_with fail
  refine (any_any _ g a n cap _ HC.out).mono ?_
  rintro e w2 ⟨r, l, rfl, hr, hl, hc, ho⟩
  have HB2 := Lib.hid (hb1.trans (below_of_only ho hb1.size (fun k hk => by omega)))
  have HC2 := Lib.hid hc
  have HG := Lib.hid (show ∀ k, r.ownBlock = some k → g ≠ k from fun k hk e => by
    have := (hr.lt k hk).1
    have := HC.out.lt
    omega)
  have HR := Lib.hid hr
  clear hc ho HC hr hb1
  go_wp2_with fail
  refine (once_any _ g a n cap _ _ HC2.out (by omega) (by omega)).mono ?_
  rintro e w3 ⟨q, rfl, hc, ho⟩
  have h1 := ho.kept HR.out HG.out
  have hb3 := HB2.out.trans (below_of_only ho HB2.out.size (fun k hk => by omega))
  clear hc ho HC2 HR HB2
  go_wp2
  go_ret2
  exact ⟨_, l, q, rfl, Oc.rc h1, hl, hb3⟩
set_option maxRecDepth 100000 in
set_option maxHeartbeats 1000000 in
theorem lawOdd_small (a : Option Addr) (n cap : Nat) (w : World) (hB : By w.heap.size w a n) (hn : n ≤ 1048576) :
    Calls Try.prog 19 #[.slice a n cap] w fun e w' => e = .returned (.bool true) ∧ Below w.heap.size w w' := by
  have hk := drawEnc a n cap w hB hn
  clear hB
  go_enter Try.func19, Try.ntmps19
  go_wp2_with fail
  refine (big_no a n cap w hn).mono ?_
  rintro e w0 ⟨rfl, rfl⟩
  go_wp2_with fail
  refine hk.mono ?_
  rintro e w1 ⟨r, l, q0, rfl, hr, hl65, hb1⟩
  clear hk
  obtain ⟨q, hq⟩ : ∃ q, rowB l = q := ⟨_, rfl⟩
  have HQ := Lib.hid hq
  have HR := Lib.hid hr
  have B1 := Lib.hid hb1
  clear hr hb1
  cases q
  · clear hq
    go_wp2_with fail
    refine (enc_any r l true false _ HR.out (by omega) HQ.out).mono ?_
    rintro e w2 ⟨s, rfl, hs, hb⟩
    rw [if_neg (by simp)] at hs
    have R2 := Lib.hid (HR.out.below hb)
    have B2 := Lib.hid (B1.out.trans (hb.mono B1.out.size))
    have S2 := Lib.hid hs.rf
    clear hs hb HR B1
    go_wp2_with fail
    refine (conjI_any r l false _ R2.out (by omega) HQ.out).mono ?_
    rintro e w3 ⟨r3, rfl, hO3, hb⟩
    rw [if_neg (by simp)] at hO3
    have R3 := Lib.hid (R2.out.below hb)
    have S3 := Lib.hid (S2.out.below hb)
    have B3 := Lib.hid (B2.out.trans (hb.mono B2.out.size))
    have C3 := Lib.hid hO3.rc
    clear hO3 hb R2 S2 B2
    go_wp2_with fail
    refine (enc_any r3 [] false false _ C3.out (by simp) rfl).mono ?_
    rintro e w4 ⟨t, rfl, ht, hb⟩
    rw [if_neg (by simp)] at ht
    have R4 := Lib.hid (R3.out.below hb)
    have S4 := Lib.hid (S3.out.below hb)
    have B4 := Lib.hid (B3.out.trans (hb.mono B3.out.size))
    have T4 := Lib.hid ht.rf
    clear ht hb R3 S3 B3 C3
    go_wp2_with fail
    refine (sameSamples_any s t [] [] _ S4.out T4.out rfl (by simp)).mono ?_
    rintro e w5 ⟨rfl, hb⟩
    have R5 := Lib.hid (R4.out.below hb)
    have B5 := Lib.hid (B4.out.trans (hb.mono B4.out.size))
    have hsf : ∃ sa sc, s = .slice sa 0 sc := by
      rcases S4.out.split with ⟨o, c, e, _⟩ | ⟨b, off, cap, e, _⟩
      · exact ⟨_, _, e⟩
      · exact ⟨_, _, e⟩
    obtain ⟨sa, sc, rfl⟩ := hsf
    clear hb R4 S4 B4 T4
    go_wp2_with fail
    refine (rowS_any r l false _ R5.out (by omega) HQ.out).mono ?_
    rintro e w6 ⟨rfl, hb⟩
    have B6 := B5.out.trans (hb.mono B5.out.size)
    clear hb
    go_wp2
    go_ret
    exact ⟨rfl, B6⟩
  · have HQ2 := Lib.hid (rowB_conj hq)
    obtain ⟨n1, n2⟩ := rowB_len hq
    clear hq
    go_wp2_with fail
    refine (enc_any r l true true _ HR.out (by omega) HQ.out).mono ?_
    rintro e w2 ⟨s, rfl, hs, hb⟩
    rw [if_pos rfl] at hs
    have R2 := Lib.hid (HR.out.below hb)
    have B2 := Lib.hid (B1.out.trans (hb.mono B1.out.size))
    have S2 := Lib.hid hs.rf
    clear hs hb HR B1
    go_wp2_with fail
    refine (conjI_any r l true _ R2.out (by omega) HQ.out).mono ?_
    rintro e w3 ⟨r3, rfl, hO3, hb⟩
    rw [if_pos rfl] at hO3
    have R3 := Lib.hid (R2.out.below hb)
    have S3 := Lib.hid (S2.out.below hb)
    have B3 := Lib.hid (B2.out.trans (hb.mono B2.out.size))
    have C3 := Lib.hid hO3.rc
    clear hO3 hb R2 S2 B2
    go_wp2_with fail
    refine (enc_any r3 (l.map conjC) false true _ C3.out (by simp; omega) HQ2.out).mono ?_
    rintro e w4 ⟨t, rfl, ht, hb⟩
    rw [if_pos rfl, enc_odd] at ht
    have R4 := Lib.hid (R3.out.below hb)
    have S4 := Lib.hid (S3.out.below hb)
    have B4 := Lib.hid (B3.out.trans (hb.mono B3.out.size))
    have T4 := Lib.hid ht.rf
    have hel := encL_len l true
    clear ht hb R3 S3 B3 C3
    go_wp2_with fail
    refine (sameSamples_any s t (encL l true) (encL l true) _ S4.out T4.out rfl (by omega)).mono ?_
    rintro e w5 ⟨rfl, hb⟩
    have R5 := Lib.hid (R4.out.below hb)
    have B5 := Lib.hid (B4.out.trans (hb.mono B4.out.size))
    have hsf : ∃ sa sc, s = .slice sa (4 * l.length) sc := by
      rw [← hel]
      rcases S4.out.split with ⟨o, c, e, e2⟩ | ⟨b, off, cap, e, _⟩
      · rw [e2]; exact ⟨_, _, e⟩
      · exact ⟨_, _, e⟩
    obtain ⟨sa, sc, rfl⟩ := hsf
    clear hb R4 S4 B4 T4 hel
    have hgt : decide ((0 : Int) < 4 * (l.length : Int)) = true := by simp; omega
    go_wp2_with fail
    refine (rowS_any r l true _ R5.out (by omega) HQ.out).mono ?_
    rintro e w6 ⟨rfl, hb⟩
    have B6 := B5.out.trans (hb.mono B5.out.size)
    clear hb
    go_wp2
    go_ret
    exact ⟨rfl, B6⟩
set_option maxRecDepth 100000 in
set_option maxHeartbeats 1000000 in
theorem lawOdd_big (a : Option Addr) (n cap : Nat) (w : World) (hn : 1048576 < n) :
    Calls Try.prog 19 #[.slice a n cap] w fun e w' => e = .returned (.bool true) ∧ Below w.heap.size w w' := by
  go_enter Try.func19, Try.ntmps19
  go_wp2_with fail
  refine (big_yes a n cap w hn).mono ?_
  rintro e w1 ⟨rfl, rfl⟩
  go_wp2_with fail
  go_ret
  exact ⟨rfl, Below.refl _ _⟩
theorem lawOdd (w : World) (a : Option Addr) (n cap : Nat) (_z : Nat) (hB : By w.heap.size w a n) :
    Calls Try.prog 19 #[.slice a n cap] w fun e w' => e = .returned (.bool true) ∧ Below w.heap.size w w' := by
  by_cases h : 1048576 < n
  · exact lawOdd_big a n cap w h
  · exact lawOdd_small a n cap w hB (by omega)
end Go.Proofs.Ytbjllfnjecggfaa
