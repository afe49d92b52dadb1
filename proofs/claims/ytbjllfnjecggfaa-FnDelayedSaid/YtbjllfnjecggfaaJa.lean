/- Walks: the reference's EncodeCells. -/
import Derived.Test.YtbjllfnjecggfaaGk
namespace Go.Proofs.Ytbjllfnjecggfaa
open Go.RowKit

set_option maxHeartbeats 400000 in
theorem scarried_any (a b : Nat) (n m : Int) (w : World) (h : n % 4 = m) : Calls Try.prog 145 #[.complex .f32 a b, .int .i64 n] w fun e w' => e = .returned (.float .f32 (crd a b m)) ∧ w = w' := by
  have hm : m = 0 ∨ m = 1 ∨ m = 2 ∨ m = 3 := by omega
  have H := Lib.hid h
  clear h
  rcases hm with rfl | rfl | rfl | rfl
  all_goals
    go_enter Try.func145, Try.ntmps145
    go_wp2_with (go_at_call 123; refine (smod4_any n _ _ H.out).mono ?_; rintro e w' ⟨rfl, rfl⟩)
    go_ret
    exact ⟨rfl, rfl⟩
theorem scarried_to (a b : Nat) (n : Int) (p : Nat) (w : World) (h : Hid (crd a b (n % 4) = p)) : Calls Try.prog 145 #[.complex .f32 a b, .int .i64 n] w fun e w' => e = .returned (.float .f32 p) ∧ w = w' := by
  have := scarried_any a b n _ w rfl
  rwa [h.out] at this
set_option maxRecDepth 100000 in
set_option maxHeartbeats 1000000 in
theorem put_any (B : Nat) (v : Value) (zs : List Nat) (y re im : Nat) (w : World) (hO : Of w B v zs) (hB : B ≤ w.heap.size) (p1 : Fl.inRng 1132462080 y = true) (p2 : Fl.inRng 1132462080 re = true) (p3 : Fl.inRng 1132462080 im = true) (hl : zs.length ≤ 256) :
    Calls Try.prog 144 #[v, .float .f32 y, .complex .f32 re im] w fun e w' => ∃ r, e = .returned r ∧ Of w' B r (zs ++ encC (y, re, im)) ∧ Below B w w' := by
  obtain ⟨i0, hi, hz0, hz1, hz2⟩ := info_parts info36
  have P1 := Lib.hid p1
  have P2 := Lib.hid p2
  have P3 := Lib.hid p3
  have HO := Lib.hid hO
  clear p1 p2 p3 hO
  go_enter Try.func144, Try.ntmps144
  go_wp2
  go_loopw [0, 7] (fun o i wr => ∃ (n : Nat) (ys : List Nat), n ≤ 4 ∧ i = .int .i64 n ∧ Hid (ys = zs ++ (encC (y, re, im)).take n) ∧ Hid (Of wr B o ys) ∧ Hid (Below B w wr)) (fun _ i _ => 4 - (intOf i).toNat)
  case atStart => exact ⟨0, zs, by omega, rfl, Lib.hid (by simp), HO, Lib.hid (Below.refl _ _)⟩
  case round =>
    obtain ⟨n, ys, hn4, rfl, hys, ho, hbi⟩ := hrel
    have hyl : ys.length ≤ 260 := by
      have h1 := congrArg List.length hys.out
      rw [List.length_append, List.length_take] at h1
      have h2 : (encC (y, re, im)).length = 4 := rfl
      omega
    have hbis := hbi.out.size
    by_cases hn : n < 4
    · obtain ⟨p, hp⟩ : ∃ p, crd re im ((n : Int) % 4) = p := ⟨_, rfl⟩
      have hnn : (n : Int) % 4 = (n : Int) := by omega
      have hrp : Fl.inRng 1132462080 p = true := by rw [← hp]; exact inRng_crd P2.out P3.out _
      have hsm : Hid (smp (y, re, im) n = Fl.sm y p) := Lib.hid (by rw [← hp, hnn]; rfl)
      obtain ⟨f1, _⟩ := Fl.hv_parts P1.out hrp
      have HP := Lib.hid hp
      have e1 : ∀ w, Fl.fbits w .add .f32 y p = Fl.sm y p := fun w => Fl.fbits_some f1
      have c1 := Fl.fcnt_some f1
      clear f1 hrp hnn hp
      go_wp2_with fail
      refine (scarried_to re im n p _ HP).mono ?_
      rintro e w3 ⟨rfl, rfl⟩
      go_wp2_with (at_builtin; refine wpList_append_at _ rfl _ _ 22 rfl B 36 i0 (.float .f32 0) 1 4 Try.underlying22 hi hz0 hz1 hz2 rfl (by decide) _ ys.length (ys.map fl) rfl (own_below ho.out ((Below.refl _ _).alloc (Nat.le_refl _) _)) _ 1 1 [fl (Fl.sm y p)] rfl rfl (cells_fl _ _ _) (by simp [Value.oneCell']) (by unfold maxLen; omega) (by omega) (by simp; omega) (by omega) ?_; intro v' w5 hown5 hgrow5 hat5)
      have hgrow5 : (wr.alloc (.cells #[fl (Fl.sm y p)] 36)).grownBy w5 u0.ownBlock := hgrow5
      have hb5 : Hid (Below B w w5) := Lib.hid (Below.grown (hbi.out.alloc (by omega) _) hgrow5 (by simp; omega) (fun k hk => ((Of.below ho.out (Below.refl _ _)).lt k hk).1))
      have ho5 := Lib.hid (of_snoc hown5)
      clear hown5 hgrow5 hat5
      go_roundw
      case rel => exact ⟨n + 1, ys ++ [Fl.sm y p], by omega, by go_num, Lib.hid (by rw [encC_succ _ hn, hsm.out, hys.out, List.append_assoc]), ho5, hb5⟩
      case measure => simp [intOf]; omega
    · have hne4 : n = 4 := by omega
      subst hne4
      have hO := ho.out
      have hBi := hbi.out
      go_wp2
      go_ret
      exact ⟨_, rfl, by rw [hys.out] at hO; exact hO, hBi⟩
set_option maxRecDepth 100000 in
set_option maxHeartbeats 1000000 in
theorem encS_any (v : Value) (l : List CV) (odd : Bool) (q : Bool) (w : World) (hR : Rc w v l) (hlen : l.length ≤ 1048576) (h : rowB l = q) :
    Calls Try.prog 139 #[v, .bool odd] w (EnPost w q l odd) := by
  have HQ := Lib.hid h
  have HR := Lib.hid hR
  have hr0 : Of (w.alloc (.cells #[] 36)) w.heap.size (.slice (some ⟨w.heap.size, 0, none⟩) 0 0) [] := own_nilrow w
  have hb0 : Below w.heap.size w (w.alloc (.cells #[] 36)) := (Below.refl _ _).alloc (Nat.le_refl _) _
  have HR0 := Lib.hid hr0
  have HB0 := Lib.hid hb0
  clear hr0 hb0
  cases q
  · clear h hR
    go_enter Try.func139, Try.ntmps139
    go_wp2_with fail
    refine (rowS_any v l false _ (HR.out.below HB0.out) hlen HQ.out).mono ?_
    rintro e w1 ⟨rfl, hb1⟩
    have ho1 := HR0.out.below hb1
    have hbb := HB0.out.trans (hb1.mono HB0.out.size)
    clear hb1
    go_wp2
    go_ret
    exact ⟨_, rfl, ho1, hbb⟩
  · obtain ⟨n1, n2⟩ := rowB_len h
    rcases hR with ⟨o, c, rfl, e⟩ | ⟨b, off, cap, rfl, h1, h2, hc⟩
    · subst e; simp at n1
    have HC := Lib.hid hc
    clear h hc
    go_enter Try.func139, Try.ntmps139
    go_wp2_with fail
    refine (rowS_any _ l true _ (HR.out.below HB0.out) hlen HQ.out).mono ?_
    rintro e w1 ⟨rfl, hb1⟩
    have ho1 := HR0.out.below hb1
    have hbb := HB0.out.trans (hb1.mono HB0.out.size)
    clear hb1 HR HR0 HB0
    go_wp2
    go_loopw [5, 6, 7] (fun o i _ wr => ∃ (j : Nat) (zs : List Nat), j ≤ l.length ∧ i = .int .i64 j ∧ Hid (zs = encL (l.take j) odd) ∧ Of wr w.heap.size o zs ∧ Below w.heap.size w wr) (fun _ i _ _ => l.length - (intOf i).toNat)
    case atStart => exact ⟨0, [], Nat.zero_le _, rfl, Lib.hid rfl, ho1, hbb⟩
    case round =>
      obtain ⟨j, zs, hj, rfl, hz, hown, hbw⟩ := hrel
      have hbs := hbw.size
      by_cases hlt : j < l.length
      · obtain ⟨d1, d2⟩ := HC.out j hlt
        rw [← hbw.cell (p := ⟨b, off + j * 2, none⟩) (World.block_lt_of_cell? _ _ d1)] at d1
        rw [← hbw.cell (p := ⟨b, off + j * 2 + 1, none⟩) (World.block_lt_of_cell? _ _ d2)] at d2
        obtain ⟨p1, p2, p3⟩ := cellB_parts (rowB_at HQ.out hlt)
        have hes := Lib.hid (encL_succ l odd hlt)
        have hzl : zs.length = 4 * j := by rw [hz.out, encL_len]; simp; omega
        generalize l.getD j c0 = x at *
        obtain ⟨y, re, im⟩ := x
        dsimp only at d1 d2 p1 p2 p3
        have P1 := Lib.hid p1
        have P2 := Lib.hid p2
        have P3 := Lib.hid p3
        have HO := Lib.hid hown
        clear p1 p2 p3 hown
        cases odd
        · have HP := Lib.hid (put_any w.heap.size u5 zs y re im wr HO.out hbs P1.out P2.out P3.out (by omega))
          go_wp2_with fail
          refine HP.out.mono ?_
          rintro e w3 ⟨r, rfl, hO3, hb3⟩
          have hfin : Hid (zs ++ encC (y, re, im) = encL (l.take (j + 1)) false) := Lib.hid (by rw [hes.out, ← hz.out]; rfl)
          have hb3 := hbw.trans hb3
          go_wp2
          go_roundw
          case rel => exact ⟨j + 1, _, by omega, by go_num, hfin, hO3, hb3⟩
          case measure => simp [intOf]; omega
        · have HP := Lib.hid (put_any w.heap.size u5 zs y re (Op.negFloat .f32 im) wr HO.out hbs P1.out P2.out (Fl.inRng_neg' P3.out) (by omega))
          go_wp2_with fail
          refine (sconj_any _ _ _).mono ?_
          rintro e w3 ⟨rfl, rfl⟩
          go_wp2_with fail
          refine HP.out.mono ?_
          rintro e w3 ⟨r, rfl, hO3, hb3⟩
          have hfin : Hid (zs ++ encC (y, re, Op.negFloat .f32 im) = encL (l.take (j + 1)) true) := Lib.hid (by rw [hes.out, ← hz.out]; rfl)
          have hb3 := hbw.trans hb3
          go_wp2
          go_roundw
          case rel => exact ⟨j + 1, _, by omega, by go_num, hfin, hO3, hb3⟩
          case measure => simp [intOf]; omega
      · have hje : j = l.length := by omega
        subst hje
        have HF : Hid (zs = encL l odd) := Lib.hid (by rw [hz.out, List.take_of_length_le (Nat.le_refl _)])
        go_wp2
        go_ret
        exact ⟨_, rfl, by rw [← HF.out]; exact hown, hbw⟩
end Go.Proofs.Ytbjllfnjecggfaa
