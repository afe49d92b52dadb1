/- Walks: Brightness, the reference's. -/
import Derived.Test.YtbjllfnjecggfaaDa
import Derived.Test.YtbjllfnjecggfaaAp
namespace Go.Proofs.Ytbjllfnjecggfaa
open Go.RowKit

theorem cells_flg (w : World) (g x : Nat) (e : Nat) (hg : g = w.heap.size) : ∀ j u, ([fl x] : List Value)[j]? = some u → (w.alloc (.cells #[fl x] e)).cell? ((⟨g, 0, none⟩ : Addr).add j) = some u := by
  subst hg; exact cells_fl w x e
theorem br_step (l : List CV) (j n : Nat) (h : j < l.length) (hn : n = 4) : br (l.take j) ++ List.replicate n (l.getD j c0).1 = br (l.take (j + 1)) := by
  rw [br_take_succ l j h, hn]; rfl
theorem ob_next {v v' : Value} {a b s : Nat} (h : ∀ k, v.ownBlock = some k → k < a ∨ b ≤ k) (h2 : ∀ k, v'.ownBlock = some k → v.ownBlock = some k ∨ s ≤ k) (hs : b ≤ s) : ∀ k, v'.ownBlock = some k → k < a ∨ b ≤ k := by
  intro k hk
  rcases h2 k hk with h3 | h3
  · exact h k h3
  · right; omega

theorem kept_at {wr w2 w1 : World} {o : Obj} {row : Option Nat} {b : Nat} (hg : (wr.alloc o).grownBy w2 row) (hlt : b < wr.heap.size) (hne : row ≠ some b) (h : wr.heap[b]? = w1.heap[b]?) : w2.heap[b]? = w1.heap[b]? := by
  rw [hg.block b (by simp; omega) (fun h2 => hne h2.symm), ← h]; exact Below.heap_alloc _ _ _ hlt

set_option maxRecDepth 100000 in
set_option maxHeartbeats 2000000 in
theorem brS_any (v : Value) (xs : List Nat) (q : Bool) (w : World) (hR : Rf w v xs) (hlen : xs.length ≤ 1048576) (hq : decOk xs false = q) :
    Calls Try.prog 45 #[v] w (BrPost w q (decl xs false (xs.length / 4))) := by
  obtain ⟨i0, hi, hz0, hz1, hz2⟩ := info_parts info36
  have HQ := Lib.hid hq
  have hR0 : Rf (w.alloc (.cells #[] 36)) v xs := hR.below ((Below.refl _ _).alloc (Nat.le_refl _) _)
  have hk := decS_all v xs false q _ hR0 hlen HQ.out
  have hb0 : Below w.heap.size w (w.alloc (.cells #[] 36)) := (Below.refl _ _).alloc (Nat.le_refl _) _
  cases q
  · clear hq
    generalize decl xs false (xs.length / 4) = D at *
    go_enter Try.func45, Try.ntmps45
    go_wp2_with fail
    refine hk.mono ?_
    rintro e w1 ⟨r, l, rfl, hO, hf, hb⟩
    have hl0 : l = [] := List.map_eq_nil_iff.1 (show l.map fvc = [] from hf)
    subst hl0
    obtain ⟨a, c, rfl⟩ := hO.rc.form
    clear hf
    go_wp2
    refine wp_loop_rounds 1 ?_
    rw [rounds_succ]
    go_wp2
    go_ret2
    exact ⟨_, [], rfl, own_below (own_nilrow w) hb, rfl, hb0.trans (hb.mono (by simp))⟩
  · have hD : (decl xs false (xs.length / 4)).length ≤ 64 := by have := decOk_len hq; simp [decl]; omega
    generalize decl xs false (xs.length / 4) = D at *
    clear hq
    go_enter Try.func45, Try.ntmps45
    go_wp2_with fail
    refine hk.mono ?_
    rintro e w1 ⟨r, l, rfl, hO, hf, hb⟩
    have hf' : l.map fvc = D := hf
    have hll : l.length ≤ 64 := by rw [map_len hf']; exact hD
    have HF := Lib.hid hf'
    clear hf hf'
    have hRow : w1.ownsRow w.heap.size 36 1 (.slice (some ⟨w.heap.size, 0, none⟩) 0 0) 0 [] := own_below (own_nilrow w) hb
    have hAt := Lib.hid (At.of hO)
    have hb1 : Below w.heap.size w w1 := hb0.trans (hb.mono (by simp))
    have hsz1 : w.heap.size + 1 ≤ w1.heap.size := by have := hb.size; simp at this; exact this
    have hRc := hO.rc
    clear hb hb0 hR0
    rcases hRc with ⟨o, c, rfl, rfl⟩ | ⟨b, off, cap, rfl, h1, h2, hc⟩
    · go_wp2
      refine wp_loop_rounds 1 ?_
      rw [rounds_succ]
      go_wp2
      go_ret2
      exact ⟨_, [], rfl, hRow, by rw [← HF.out]; rfl, hb1⟩
    · have HC := Lib.hid hc
      have hbr := hAt.out b rfl
      simp only [World.size_alloc] at hbr
      clear hc hO
      go_wp2
      go_loopw [4, 7, 8] (fun o i _ wr => ∃ j : Nat, j ≤ l.length ∧ i = .int .i64 j ∧ Of wr w.heap.size o (br (l.take j)) ∧ (∀ k, o.ownBlock = some k → k < w.heap.size + 1 ∨ w1.heap.size ≤ k) ∧ Below w.heap.size w wr ∧ Hid (wr.heap[b]? = w1.heap[b]?) ∧ w1.heap.size ≤ wr.heap.size) (fun _ i _ _ => l.length - (intOf i).toNat)
      case atStart => exact ⟨0, Nat.zero_le _, rfl, hRow, (fun k hk => by cases hk; left; exact Nat.lt_succ_self _), hb1, Lib.hid rfl, Nat.le_refl _⟩
      case round =>
        obtain ⟨j, hj, rfl, hown, hob, hbw, hkb, hsw⟩ := hrel
        by_cases hlt : j < l.length
        · have hst := Lib.hid (fun n hn => br_step l j n hlt hn)
          have hzl : (br (l.take j)).length ≤ 256 := by rw [br_len]; simp; omega
          have hg := HC.out j hlt
          have HG := Lib.hid hg.1
          clear hg
          generalize br (l.take j) = zs at *
          generalize l.getD j c0 = x at *
          have HOB := Lib.hid hob
          clear hob
          obtain ⟨wo, hwo⟩ : ∃ wo : World, wo = wr := ⟨_, rfl⟩
          subst hwo
          go_wp2
          go_loopw [4, 8] (fun o i wr => ∃ n : Nat, n ≤ 4 ∧ i = .int .i64 n ∧ Of wr w.heap.size o (zs ++ List.replicate n x.1) ∧ Hid (∀ k, o.ownBlock = some k → k < w.heap.size + 1 ∨ w1.heap.size ≤ k) ∧ Below w.heap.size w wr ∧ Hid (wr.heap[b]? = w1.heap[b]?) ∧ w1.heap.size ≤ wr.heap.size) (fun _ i _ => 4 - (intOf i).toNat)
          case atStart => exact ⟨0, Nat.zero_le _, rfl, by simpa using hown, HOB, hbw, hkb, hsw⟩
          case round =>
            obtain ⟨n, hn, rfl, hown, hob, hbw, hkb, hsw⟩ := hrel
            have hbs := hbw.size
            by_cases hn4 : n < 4
            · have hcell : wr.cell? ⟨b, off + j * 2, none⟩ = some (.float .f32 x.1) := by
                rw [World.cell?_of_block (w := w1) (w' := wr) (a := ⟨b, off + j * 2, none⟩) hkb.out]; exact HG.out
              have hyl : (zs ++ List.replicate n x.1).length ≤ 260 := by simp; omega
              have hrep : Hid (zs ++ List.replicate (n + 1) x.1 = (zs ++ List.replicate n x.1) ++ [x.1]) := Lib.hid (by rw [List.replicate_succ', List.append_assoc])
              generalize zs ++ List.replicate n x.1 = ys at *
              go_wp2_with (at_builtin; refine wpList_append_at _ rfl _ _ 22 rfl w.heap.size 36 i0 (.float .f32 0) 1 4 Try.underlying22 hi hz0 hz1 hz2 rfl (by decide) _ ys.length (ys.map fl) rfl (own_below hown (by repeat (first | exact Below.refl _ _ | refine below_drewN ?_ _ | refine Below.setCell ?_ (by simp) _ | refine Below.alloc ?_ (by simp) _))) _ 1 1 [fl x.1] rfl rfl (cells_flg _ _ _ _ (by simp)) (by simp [Value.oneCell']) (by unfold maxLen; omega) (by omega) (by simp; omega) (by omega) ?_; intro v' w2 hown2 hgrow2 hat2)
              have hgrow2 : (wr.alloc (.cells #[.float .f32 x.1] 36)).grownBy w2 u4.ownBlock := hgrow2
              have hat2 : ∀ k, v'.ownBlock = some k → u4.ownBlock = some k ∨ w1.heap.size ≤ k := fun k hk => (hat2 k hk).imp_right (fun h => Nat.le_trans hsw (by simp at h; omega))
              have hb2 : Below w.heap.size w w2 := Below.grown (hbw.trans ((Below.refl _ _).alloc hbs _)) hgrow2 (by simp; omega) (fun k hk => (hown.lt k hk).1)
              have hob2 := Lib.hid (ob_next (s := w1.heap.size) hob.out hat2 (Nat.le_refl _))
              have hk2 : Hid (w2.heap[b]? = w1.heap[b]?) := Lib.hid (kept_at hgrow2 (by omega) (fun h => by rcases hob.out b h with h' | h' <;> omega) hkb.out)
              have hs2 : w1.heap.size ≤ w2.heap.size := by have := hgrow2.size; simp at this; omega
              clear hat2 hgrow2
              go_roundw
              case rel => exact ⟨n + 1, by omega, by go_num, by rw [hrep.out]; exact of_snoc hown2, hob2, hb2, hk2, hs2⟩
              case measure => simp [intOf]; omega
            · have hn4 : n = 4 := by omega
              subst hn4
              go_wp2
              go_roundw
              case rel => exact ⟨j + 1, by omega, by go_num, by rw [← hst.out 4 rfl]; exact hown, hob.out, hbw, hkb, hsw⟩
              case measure => simp [intOf]; omega
        · have hke : j = l.length := by omega
          subst hke
          go_wp2
          go_ret2
          refine ⟨_, br l, rfl, ?_, by rw [br_F, HF.out]; rfl, hbw⟩
          rwa [List.take_of_length_le (Nat.le_refl _)] at hown
end Go.Proofs.Ytbjllfnjecggfaa
