/- Walks: DecodeCells, the reference's. -/
import Derived.Test.YtbjllfnjecggfaaCd
namespace Go.Proofs.Ytbjllfnjecggfaa
open Go.RowKit

theorem cells_cg (w : World) (g y re im e : Nat) (hg : g = w.heap.size) : ∀ j u, ([.float .f32 y, .complex .f32 re im] : List Value)[j]? = some u → (w.alloc (.cells #[.float .f32 y, .complex .f32 re im] e)).cell? ((⟨g, 0, none⟩ : Addr).add j) = some u := by
  subst hg; exact cells_c w y re im e
theorem rowOkF_long {D : List FV} (h : 64 < D.length) : rowOkF D = false := by
  unfold rowOkF; rw [decide_eq_false (by omega)]; rfl

set_option maxRecDepth 100000 in
set_option maxHeartbeats 400000 in
theorem decS_odd4 (v : Value) (xs : List Nat) (odd : Bool) (w : World) (hR : Rf w v xs) (hlen : xs.length ≤ 1048576) (h : ¬ xs.length % 4 = 0) :
    Calls Try.prog 53 #[v, .bool odd] w fun e w' => ∃ r, e = .returned (.tuple #[r, .bool false]) ∧ Oc w' w.heap.size r [] ∧ Below w.heap.size w w' := by
  obtain ⟨a, c, rfl⟩ := hR.form
  have e1 : ((xs.length : Int) % 4 != 0) = true := by rw [bne_iff_ne]; omega
  clear h
  go_enter Try.func53, Try.ntmps53
  go_wp2
  go_ret2
  exact ⟨_, rfl, oc_nil w, (Below.refl _ _).alloc (Nat.le_refl _) _⟩

set_option maxRecDepth 100000 in
set_option maxHeartbeats 1000000 in
theorem decS_any (v : Value) (xs : List Nat) (odd : Bool) (q : Bool) (w : World) (hR : Rf w v xs) (hlen : xs.length ≤ 1048576) (h : xs.length % 4 = 0) (hq : rowOkF (decl xs odd (xs.length / 4)) = q) :
    Calls Try.prog 53 #[v, .bool odd] w (DecPost w q (decl xs odd (xs.length / 4))) := by
  obtain ⟨i0, hi, hz0, hz1, hz2⟩ := info_parts info48
  have e1 : ((xs.length : Int) % 4 != 0) = false := by simp; omega
  have HQ := Lib.hid hq
  have hn : xs.length = 4 * (xs.length / 4) := by omega
  obtain ⟨n, hnn⟩ : ∃ n, n = xs.length / 4 := ⟨_, rfl⟩
  rw [← hnn] at hn HQ ⊢
  have hnl : 4 * n ≤ xs.length := by omega
  have hnl2 : xs.length ≤ 4 * n := by omega
  clear h hq hn hnn
  by_cases hbig : 256 < xs.length
  · obtain ⟨a, c, rfl⟩ := hR.form
    have hq0 : q = false := by rw [← HQ.out]; exact rowOkF_long (by simp [decl]; omega)
    subst hq0
    go_enter Try.func53, Try.ntmps53
    go_wp2
    go_ret2
    exact ⟨_, [], rfl, oc_nil w, rfl, (Below.refl _ _).alloc (Nat.le_refl _) _⟩
  rcases hR.split with ⟨o, c, rfl, rfl⟩ | ⟨b, off, cap, rfl, h1, h2, hc⟩
  · have hn0 : n = 0 := by simp at hnl; omega
    subst hn0
    have hq0 : q = false := HQ.out.symm
    subst hq0
    have hR2 : Rc (w.alloc (.cells #[] 48)) (.slice (some ⟨w.heap.size, 0, none⟩) 0 0) [] := .inl ⟨_, _, rfl, rfl⟩
    go_enter Try.func53, Try.ntmps53
    go_wp2
    refine wp_loop_rounds 1 ?_
    rw [rounds_succ]
    go_wp2_with (go_at_call 61; refine (rowS_any _ [] false _ hR2 (Nat.zero_le _) rfl).mono ?_; rintro e w1 ⟨rfl, hb⟩)
    go_ret2
    have hb0 : Below w.heap.size w w1 := ((Below.refl _ _).alloc (Nat.le_refl _) _).trans (hb.mono (by simp))
    exact ⟨_, [], rfl, own_base (oc_nil w1) hb0.size, rfl, hb0.alloc hb0.size _⟩
  · have HC := Lib.hid hc
    clear hc
    go_enter Try.func53, Try.ntmps53
    go_wp2
    go_loopw [6, 7, 8] (fun o i _ wr => ∃ (j : Nat) (l : List CV), j ≤ n ∧ i = .int .i64 (4 * (j : Int)) ∧ l.map fvc = decl xs odd j ∧ Oc wr w.heap.size o l ∧ Below w.heap.size w wr) (fun _ i _ _ => xs.length - (intOf i).toNat)
    case atStart => exact ⟨0, [], Nat.zero_le _, rfl, rfl, oc_nil w, (Below.refl _ _).alloc (Nat.le_refl _) _⟩
    case round =>
      obtain ⟨j, l, hj, rfl, hfv, hown, hbw⟩ := hrel
      have hll : l.length = j := by rw [map_len hfv]; simp [decl]
      have hle : l.length ≤ 262144 := by omega
      have hbs := hbw.size
      have HF := Lib.hid hfv
      clear hfv
      by_cases hlt : j < n
      · have HL := Lib.hid hll
        clear hll
        have g1 := HC.out (4 * j) (by omega)
        have g2 := HC.out (4 * j + 1) (by omega)
        have g3 := HC.out (4 * j + 2) (by omega)
        have g4 := HC.out (4 * j + 3) (by omega)
        rw [← hbw.cell (p := ⟨b, off + 4 * j, none⟩) (World.block_lt_of_cell? _ _ g1)] at g1
        rw [← hbw.cell (p := ⟨b, off + (4 * j + 1), none⟩) (World.block_lt_of_cell? _ _ g2)] at g2
        rw [← hbw.cell (p := ⟨b, off + (4 * j + 2), none⟩) (World.block_lt_of_cell? _ _ g3)] at g3
        rw [← hbw.cell (p := ⟨b, off + (4 * j + 3), none⟩) (World.block_lt_of_cell? _ _ g4)] at g4
        have hda : Hid (decAt xs odd j = conjF odd (decv (Fl.fv .f32 (xs.getD (4 * j) 0)) (Fl.fv .f32 (xs.getD (4 * j + 1) 0)) (Fl.fv .f32 (xs.getD (4 * j + 2) 0)) (Fl.fv .f32 (xs.getD (4 * j + 3) 0)))) := Lib.hid rfl
        have hds := Lib.hid (decl_succ xs odd j)
        generalize xs.getD (4 * j) 0 = s at *
        generalize xs.getD (4 * j + 1) 0 = t at *
        generalize xs.getD (4 * j + 2) 0 = u at *
        generalize xs.getD (4 * j + 3) 0 = v at *
        have hi4 : 4 * (j : Int) < (xs.length : Int) := by omega
        have hk := (take_any b off xs.length cap (4 * j) s t u v wr (by omega) hlen g1 g2 g3 g4)
        cases odd
        · go_wp2_with (first | (go_at_call 101; refine hk.mono ?_; rintro e w1 ⟨⟨y, re, im⟩, rfl, hcv, hb1⟩; have HV := Lib.hid hcv; clear hcv; have hO1 := hown.below hb1; have hs1 := hb1.size) | (at_builtin; refine wpList_append_own _ rfl _ _ 40 rfl w.heap.size 48 i0 (.agg #[.float .f32 0, .complex .f32 0 0]) 2 12 Try.underlying40 hi hz0 hz1 hz2 rfl (by decide) _ l.length (cells l) rfl (own_below hO1 (by repeat (first | exact Below.refl _ _ | refine below_drewN ?_ _ | refine Below.setCell ?_ (by simp) _ | refine Below.alloc ?_ (by simp) _))) _ 1 1 [.float .f32 y, .complex .f32 re im] rfl rfl (cells_cg _ _ _ _ _ _ (by simp)) (by simp [Value.oneCell']) (by unfold maxLen; omega) (by omega) (by simp; omega) ?_; intro v' w2 hown2 hgrow2 _))
          have hb2 : Below w.heap.size w w2 := Below.grown (by repeat (first | exact hbw.trans (hb1.mono hbs) | refine below_drewN ?_ _ | refine Below.setCell ?_ (by (try simp); omega) _ | refine Below.alloc ?_ (by (try simp); omega) _)) hgrow2 (by simp; omega) (fun k hk => (hown.lt k hk).1)
          go_roundw
          case rel => exact ⟨j + 1, l ++ [(y, re, im)], by omega, by go_num, by rw [List.map_append, HF.out, hds.out, hda.out, List.map_singleton, ← HV.out]; rfl, oc_snoc hown2, hb2⟩
          case measure => simp [intOf]; omega
        · go_wp2_with (first | (go_at_call 101; refine hk.mono ?_; rintro e w1 ⟨⟨y, re, im⟩, rfl, hcv, hb1⟩; have HV := Lib.hid hcv; clear hcv; have hO1 := hown.below hb1; have hs1 := hb1.size) | (go_at_call 102; refine (sconj_any _ _ _).mono ?_; rintro e w' ⟨rfl, rfl⟩) | (at_builtin; refine wpList_append_own _ rfl _ _ 40 rfl w.heap.size 48 i0 (.agg #[.float .f32 0, .complex .f32 0 0]) 2 12 Try.underlying40 hi hz0 hz1 hz2 rfl (by decide) _ l.length (cells l) rfl (own_below hO1 (by repeat (first | exact Below.refl _ _ | refine below_drewN ?_ _ | refine Below.setCell ?_ (by simp) _ | refine Below.alloc ?_ (by simp) _))) _ 1 1 [.float .f32 y, .complex .f32 re (Op.negFloat .f32 im)] rfl rfl (cells_cg _ _ _ _ _ _ (by simp)) (by simp [Value.oneCell']) (by unfold maxLen; omega) (by omega) (by simp; omega) ?_; intro v' w2 hown2 hgrow2 _))
          have hb2 : Below w.heap.size w w2 := Below.grown (by repeat (first | exact hbw.trans (hb1.mono hbs) | refine below_drewN ?_ _ | refine Below.setCell ?_ (by (try simp); omega) _ | refine Below.alloc ?_ (by (try simp); omega) _)) hgrow2 (by simp; omega) (fun k hk => (hown.lt k hk).1)
          go_roundw
          case rel => exact ⟨j + 1, l ++ [(y, re, Op.negFloat .f32 im)], by omega, by go_num, by rw [List.map_append, HF.out, hds.out, hda.out, List.map_singleton, ← HV.out]; simp only [fvc, conjF, Fl.fv_neg, if_true], oc_snoc hown2, hb2⟩
          case measure => simp [intOf]; omega
      · have hke : j = n := by omega
        subst hke
        have hi4 : (xs.length : Int) ≤ 4 * (j : Int) := by omega
        have HB := Lib.hid (show rowB l = q by rw [← rowB_F, HF.out]; exact HQ.out)
        clear hll
        go_wp2_with (go_at_call 61; refine (rowS_any _ l q _ hown.rc (by omega) HB.out).mono ?_; rintro e w1 ⟨rfl, hb⟩; cases q)
        · go_ret2
          have hb0 : Below w.heap.size w w1 := hbw.trans (hb.mono hbs)
          exact ⟨_, [], rfl, own_base (oc_nil w1) hb0.size, rfl, hb0.alloc hb0.size _⟩
        · go_ret2
          exact ⟨_, l, rfl, hown.below hb, HF.out, hbw.trans (hb.mono hbs)⟩

end Go.Proofs.Ytbjllfnjecggfaa
