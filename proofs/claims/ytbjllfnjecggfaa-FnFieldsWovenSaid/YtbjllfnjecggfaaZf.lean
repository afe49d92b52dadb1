/- Walk: the drawing of a picture whose pairs of rows share their colours. -/
import Derived.Test.YtbjllfnjecggfaaZe
import Derived.Test.YtbjllfnjecggfaaGm
namespace Go.Proofs.Ytbjllfnjecggfaa
open Go.RowKit

def PdPost (B : Nat) (w : World) (g : Nat) (a : Option Addr) (n cap : Nat) (e : Ending) (w' : World) : Prop :=
  ∃ r L W, e = .returned r ∧ OP w' w.heap.size r L ∧ 4 ≤ L.length ∧ L.length ≤ 8 ∧ 1 ≤ W ∧ W ≤ 4 ∧ (∀ i, i < L.length → (L.getD i []).length = W) ∧ Cur B w' g a n cap ∧ Only (fun j => g = j) w w'
theorem set_one {w : World} {b : Nat} {x y : Value} {t : TypeId} (h : w.heap[b]? = some (.cells #[x, y] t (0, 0))) (q : Value) : (w.setCell ⟨b, 1, none⟩ q).heap[b]? = some (.cells #[x, q] t (0, 0)) := by
  simp [World.setCell, Array.getElem?_modify, h]
theorem all_snoc {L : Pic} {l : List CV} {W : Nat} (h : ∀ i, i < L.length → (L.getD i []).length = W) (hl : l.length = W) : ∀ i, i < (L ++ [l]).length → ((L ++ [l]).getD i []).length = W := by
  intro i hi
  rw [getD_snoc]
  by_cases h1 : i < L.length
  · rw [if_pos h1]; exact h i h1
  · have : i = L.length := by simp at hi; omega
    rw [if_neg h1, if_pos this]; exact hl
theorem rp_at {w : World} {v : Value} {L : Pic} (h : Rp w v L) {i : Nat} (hi : i < L.length) : ∃ b off cap a c, v = .slice (some ⟨b, off, none⟩) L.length cap ∧ w.cell? ⟨b, off + i, none⟩ = some (.slice a (L.getD i []).length c) ∧ Rc w (.slice a (L.getD i []).length c) (L.getD i []) := by
  rcases h with ⟨e, _⟩ | ⟨b, off, cap, rfl, hc⟩
  · subst e; simp at hi
  · obtain ⟨a, c, h1, h2⟩ := hc i hi
    exact ⟨b, off, cap, a, c, rfl, h1, h2⟩
set_option maxRecDepth 100000 in
set_option maxHeartbeats 2000000 in
theorem paired_any (B g : Nat) (a : Option Addr) (n cap : Nat) (w : World) (h : Cur B w g a n cap) :
    Calls Try.prog 140 #[.pointer (some ⟨g, 0, none⟩)] w (PdPost B w g a n cap) := by
  obtain ⟨i0, hi, hz0, hz1, hz2⟩ := info_parts info48
  obtain ⟨i1, hi', hz0', hz1', hz2'⟩ := info_parts infoR
  have hglt := h.lt
  have hBg := h.two
  have HC := Lib.hid h
  have hop0 := Lib.hid (op_new w)
  clear h
  go_enter Try.func140, Try.ntmps140
  go_wp2_with fail
  refine (below_any B g a n cap 4 _ (HC.out.alloc hglt _) (by omega) (by omega)).mono ?_
  rintro e w1 ⟨x, rfl, x0, x1, hc, ho⟩
  rw [if_neg (by omega)] at x1
  obtain ⟨W, hW⟩ : ∃ W : Nat, 1 + x = (W : Int) := ⟨(1 + x).toNat, by omega⟩
  have hW1 : 1 ≤ W := by omega
  have hW4 : W ≤ 4 := by omega
  have HC1 := Lib.hid hc
  have hop1 := Lib.hid (hop0.out.only ho hglt)
  have HO1 := Lib.hid (((Only.refl (fun j => g = j) w).alloc (.cells #[] 40)).trans ho)
  clear hc ho HC hop0
  go_wp2_with fail
  refine (below_any B g a n cap 2 _ HC1.out (by omega) (by omega)).mono ?_
  rintro e w2 ⟨y, rfl, y0, y1, hc, ho⟩
  rw [if_neg (by omega)] at y1
  obtain ⟨H1, hH1⟩ : ∃ H1 : Nat, 1 + y = (H1 : Int) := ⟨(1 + y).toNat, by omega⟩
  have hH12 : H1 ≤ 2 := by omega
  have hH11 : 1 ≤ H1 := by omega
  obtain ⟨H, hH⟩ : ∃ H : Nat, 4 * (H1 : Int) = (H : Int) := ⟨4 * H1, by omega⟩
  have hH4 : 4 ≤ H := by omega
  have hH8 : H ≤ 8 := by omega
  have HC2 := Lib.hid hc
  have hop2 := Lib.hid (hop1.out.only ho hglt)
  have HO2 := Lib.hid (HO1.out.trans ho)
  clear hc ho HC1 hop1 HO1
  go_wp2
  clear hW hH1 hH x0 x1 y0 y1
  go_loopw [3, 6, 7, 8, 9] (fun o r _ _ _ wr => ∃ (j : Nat) (L : Pic), j ≤ H ∧ L.length = j ∧ r = .int .i64 j ∧ Hid (OP wr w.heap.size o L) ∧ Hid (∀ i, i < L.length → (L.getD i []).length = W) ∧ Hid (Cur B wr g a n cap) ∧ Hid (Only (fun j => g = j) w wr)) (fun _ r _ _ _ _ => H - (intOf r).toNat)
  case atStart => exact ⟨0, [], Nat.zero_le _, rfl, rfl, hop2, Lib.hid (fun i hi => by simp at hi), HC2, HO2⟩
  case round =>
    obtain ⟨j, L, hj, hL, rfl, hop, hall, hcu, hon⟩ := hrel
    have hws := hon.out.size
    have HL := Lib.hid hL
    clear hL
    by_cases hlt : j < H
    · have hm := mod4_nat j
      obtain ⟨t, ht⟩ : ∃ t, j % 4 = t := ⟨_, rfl⟩
      have hme : (j : Int) % 4 = (t : Int) := by omega
      rw [ht] at hm
      have HT := Lib.hid ht
      have ht3 : t ≤ 3 := by omega
      clear ht
      have hrow0 : Oc (wr.alloc (.cells #[] 48)) wr.heap.size (.slice (some ⟨wr.heap.size, 0, none⟩) 0 0) [] := oc_nil wr
      have HR0 := Lib.hid hrow0
      have HC0 := Lib.hid (hcu.out.alloc hcu.out.lt (.cells #[] 48))
      have HO0 := Lib.hid ((Only.refl (fun j => g = j) wr).alloc (.cells #[] 48))
      have hgr : g < wr.heap.size := hcu.out.lt
      clear hrow0 hcu
      go_wp2
      go_loopw [7, 8, 9] (fun o i _ wi => ∃ (m : Nat) (l : List CV), m ≤ W ∧ l.length = m ∧ i = .int .i64 m ∧ Hid (Oc wi wr.heap.size o l) ∧ Hid (Cur B wi g a n cap) ∧ Hid (Only (fun j => g = j) wr wi)) (fun _ i _ _ => W - (intOf i).toNat)
      case atStart => exact ⟨0, [], Nat.zero_le _, rfl, rfl, HR0, HC0, HO0⟩
      case round =>
        rename World => wi
        obtain ⟨m, l, hm4, hl, rfl, hown, hcu, hoi⟩ := hrel
        have hwis := hoi.out.size
        have HLl := Lib.hid hl
        clear hl
        by_cases hmw : m < W
        · go_wp2_with fail
          refine (plain_any B g a n cap _ hcu.out).mono ?_
          rintro e w3 ⟨y, re, im, rfl, _, hc3, ho3⟩
          have hs3 := ho3.size
          have hown3 : Oc w3 wr.heap.size u7 l := ho3.kept hown.out fun q hq e => by have := (hown.out.lt q hq).1; omega
          have hg3 := hc3.lt
          have HC4 := Lib.hid (hc3.alloc hg3 (.cells #[.float .f32 y, .complex .f32 re im] 48))
          have HO4 := Lib.hid ((hoi.out.trans ho3).alloc (.cells #[.float .f32 y, .complex .f32 re im] 48))
          have hown4 : Oc (w3.alloc (.cells #[.float .f32 y, .complex .f32 re im] 48)) wr.heap.size u7 l := own_below hown3 ((Below.refl _ _).alloc (Nat.le_refl _) _)
          have hrow : ∀ q, u7.ownBlock = some q → wr.heap.size ≤ q ∧ q < w3.heap.size := fun q hq => hown3.lt q hq
          have HR := Lib.hid hrow
          have HN4 := Lib.hid hown4
          have HC3 := Lib.hid hc3
          have HO3 := Lib.hid (hoi.out.trans ho3)
          have HN3 := Lib.hid hown3
          have hx4 := Lib.hid (heap_alloc_new w3 (.cells #[.float .f32 y, .complex .f32 re im] 48))
          clear hc3 ho3 hown3 hown4 hrow hown hcu hoi
          have hl4 : l.length ≤ 4 := by have := HLl.out; omega
          by_cases ht2 : t < 2
          · have hge : ¬ (2 : Int) ≤ (t : Int) := by omega
            obtain ⟨hq1, hq2, hq3, hq4⟩ := cell_two hx4.out
            go_wp2_with (at_builtin; refine wpList_append_at _ rfl _ _ 40 rfl wr.heap.size 48 i0 (.agg #[.float .f32 0, .complex .f32 0 0]) 2 12 Try.underlying40 hi hz0 hz1 hz2 rfl (by decide) _ l.length (cells l) rfl (own_below HN4.out ((Below.refl _ _).alloc (Nat.le_refl _) _)) _ 1 1 [.float .f32 y, .complex .f32 re im] rfl rfl (cells_cg _ _ _ _ _ _ (by simp)) (by simp [Value.oneCell']) (by unfold maxLen; omega) (by omega) (by simp; omega) (by omega) ?_; intro v' w5 hown5 hgrow5 hat5)
            have hgrow5 : ((w3.alloc (.cells #[.float .f32 y, .complex .f32 re im] 48)).alloc (.cells #[.float .f32 y, .complex .f32 re im] 48)).grownBy w5 u7.ownBlock := hgrow5
            have hc5 := Lib.hid (cur_app HC4.out hgrow5 (fun q hq => by have := (HR.out q hq).1; omega))
            have ho5 := Lib.hid (only_app HO4.out hgrow5 (fun q hq => (HR.out q hq).1))
            have hn5 := Lib.hid (oc_snoc (c := (y, re, im)) hown5)
            clear hown5 hgrow5 hat5
            go_wp2
            go_roundw
            case rel => exact ⟨m + 1, l ++ [(y, re, im)], by omega, by have := HLl.out; simp; omega, by go_num, hn5, hc5, ho5⟩
            case measure => simp [intOf]; omega
          · have hge : (2 : Int) ≤ (t : Int) := by omega
            obtain ⟨k, hk⟩ : ∃ k, j = k + 2 := ⟨j - 2, by have := HT.out; omega⟩
            have hop4 := (hop.out.only HO4.out (by omega)).rp
            obtain ⟨ob, oo, ocap, ra, rc, hov, ocell, orc⟩ := rp_at hop4 (i := k) (by rw [HL.out]; omega)
            have hlk : (L.getD k []).length = W := hall.out k (by rw [HL.out]; omega)
            obtain ⟨rb, ro, hra, rcell⟩ := rc_some orc (by omega)
            obtain ⟨_, d2⟩ := rcell m (by omega)
            rw [hlk, hra] at ocell
            have hkl : k < L.length := by rw [HL.out]; omega
            generalize (L.getD k []).getD m c0 = z at *
            obtain ⟨z1, re2, im2⟩ := z
            dsimp only at d2
            have HC5 := Lib.hid (HC3.out.alloc hg3 (.cells #[.float .f32 y, .complex .f32 re2 im2] 48))
            have HO5 := Lib.hid (HO3.out.alloc (.cells #[.float .f32 y, .complex .f32 re2 im2] 48))
            have HN5 : Hid (Oc (w3.alloc (.cells #[.float .f32 y, .complex .f32 re2 im2] 48)) wr.heap.size u7 l) := Lib.hid (own_below HN3.out ((Below.refl _ _).alloc (Nat.le_refl _) _))
            clear orc rcell hop4 hlk hra HC4 HO4 HN4
            subst hov
            have hjk : (j : Int) - 2 = (k : Int) := by omega
            have hk6 : k ≤ 6 := by omega
            clear hk
            go_wp2_with (at_builtin; refine wpList_append_at _ rfl _ _ 40 rfl wr.heap.size 48 i0 (.agg #[.float .f32 0, .complex .f32 0 0]) 2 12 Try.underlying40 hi hz0 hz1 hz2 rfl (by decide) _ l.length (cells l) rfl (own_below HN5.out ((Below.refl _ _).alloc (Nat.le_refl _) _)) _ 1 1 [.float .f32 y, .complex .f32 re2 im2] rfl rfl (cells_cg _ _ _ _ _ _ (by simp)) (by simp [Value.oneCell']) (by unfold maxLen; omega) (by omega) (by simp; omega) (by omega) ?_; intro v' w5 hown5 hgrow5 hat5)
            have hgrow5 : ((w3.alloc (.cells #[.float .f32 y, .complex .f32 re2 im2] 48)).alloc (.cells #[.float .f32 y, .complex .f32 re2 im2] 48)).grownBy w5 u7.ownBlock := hgrow5
            have hc5 := Lib.hid (cur_app HC5.out hgrow5 (fun q hq => by have := (HR.out q hq).1; omega))
            have ho5 := Lib.hid (only_app HO5.out hgrow5 (fun q hq => (HR.out q hq).1))
            have hn5 := Lib.hid (oc_snoc (c := (y, re2, im2)) hown5)
            clear hown5 hgrow5 hat5
            go_wp2
            go_roundw
            case rel => exact ⟨m + 1, l ++ [(y, re2, im2)], by omega, by have := HLl.out; simp; omega, by go_num, hn5, hc5, ho5⟩
            case measure => simp [intOf]; omega
        · have hmW : m = W := by omega
          obtain ⟨ta, tc, hta⟩ := hown.out.rc.form
          have HU := Lib.hid hown.out.rc
          have hopi := hop.out.only hoi.out (by omega)
          have hob : ∀ k, u3.ownBlock = some k → k < wr.heap.size := by
            obtain ⟨us, _, ho, _⟩ := hop.out
            exact fun k hk => (ho.lt k hk).2
          have HIN : Hid (∀ k, inB u7 k → w.heap.size ≤ k ∧ k < wi.heap.size ∧ some k ≠ u3.ownBlock ∧ Frz wi k) := Lib.hid fun k hk => by
            obtain ⟨h1, h2, h3⟩ := oc_in hown.out k hk
            exact ⟨by omega, h2, fun e => by have := hob k e.symm; omega, h3⟩
          have HOi := Lib.hid (hon.out.trans hoi.out)
          have HCi := hcu
          obtain ⟨us, hus, hou, hrr⟩ := hopi
          have HRR := Lib.hid hrr
          have HUS := Lib.hid hus
          rw [HL.out] at hou
          have HRB : Hid (∀ k, u3.ownBlock = some k → w.heap.size ≤ k) := Lib.hid fun k hk => (hou.lt k hk).1
          clear hop hrr hus hoi hcu hown hob
          have hl4 : l.length ≤ 4 := by have := HLl.out; omega
          subst hta
          have hwi2 : w.heap.size ≤ wi.heap.size := HOi.out.size
          go_wp2_with (at_builtin; refine wpList_append_at _ rfl _ _ 64 rfl w.heap.size 40 i1 (.slice none 0 0) 1 24 Try.underlying64 hi' hz0' hz1' hz2' rfl (by decide) _ j us rfl (own_below hou ((Below.refl _ _).alloc (Nat.le_refl _) _)) _ 1 1 [.slice ta l.length tc] rfl rfl (cells_row _ _ _) (by simp [Value.oneCell']) (by unfold maxLen; omega) (by omega) (by simp; omega) (by omega) ?_; intro v' w5 hown5 hgrow5 hat5)
          have hgrow5 : (wi.alloc (.cells #[.slice ta l.length tc] 40)).grownBy w5 u3.ownBlock := hgrow5
          have hop5 : Hid (OP w5 w.heap.size v' (L ++ [l])) := Lib.hid (OP.snoc (w := wi) (us := us) (v := u3) HUS.out HRR.out HU.out HIN.out (by rw [HL.out]; exact hown5) hgrow5 fun q hq => by
            rcases hat5 q hq with h | h
            · exact .inl h
            · right; have : wi.heap.size + 1 ≤ q := by simpa using h
              omega)
          have hc5 := Lib.hid (cur_app HCi.out hgrow5 (fun q hq => by have := HRB.out q hq; omega))
          have ho5 := Lib.hid (only_app HOi.out hgrow5 HRB.out)
          have hall5 := Lib.hid (all_snoc hall.out (show l.length = W by have := HLl.out; omega))
          clear hown5 hgrow5 hat5 HRR HU HIN HCi HOi hou
          go_wp2
          go_roundw
          case rel => exact ⟨j + 1, L ++ [l], by omega, by have := HL.out; simp; omega, by go_num, hop5, hall5, hc5, ho5⟩
          case measure => simp [intOf]; omega
    · have hje : j = H := by omega
      subst hje
      have hO := hop.out
      go_wp2
      go_ret
      exact ⟨_, L, W, rfl, hO, by have := HL.out; omega, by have := HL.out; omega, hW1, hW4, hall.out, hcu.out, hon.out⟩
end Go.Proofs.Ytbjllfnjecggfaa
