/- Walks: the drawing of arguments: samples. -/
import Derived.Test.YtbjllfnjecggfaaJa
import Derived.Test.YtbjllfnjecggfaaUj
import Derived.Test.YtbjllfnjecggfaaGc
namespace Go.Proofs.Ytbjllfnjecggfaa
open Go.RowKit

def lenOf : Value → Nat | .slice _ n _ => n | _ => 0
theorem only_below {S : Nat → Prop} {w w' : World} (h : Below w.heap.size w w') : Only S w w' := ⟨h.os, h.tape, h.output, h.size, fun k hk _ => h.block k hk⟩
theorem of_form' {w : World} {B : Nat} {v : Value} {zs : List Nat} (h : Of w B v zs) : ∃ a c, v = .slice a zs.length c := by
  rcases h.rf.split with ⟨o, c, e, e2⟩ | ⟨b, off, cap, e, _⟩
  · rw [e2]; exact ⟨_, _, e⟩
  · exact ⟨_, _, e⟩
theorem of_own {w : World} {B : Nat} {v : Value} {zs : List Nat} (h : Of w B v zs) (h1 : 0 < zs.length) : ∃ g cap, v = .slice (some ⟨g, 0, none⟩) zs.length cap ∧ B ≤ g ∧ g < w.heap.size ∧ (∀ j, w.frozen? ⟨g, j, none⟩ = false) ∧ ∀ j, j < zs.length → w.cell? ⟨g, j, none⟩ = some (.float .f32 (zs.getD j 0)) := by
  have hc := h.rf.split
  rcases h.2 with ⟨rfl, h0⟩ | ⟨g, cap, cur, rfl, hB, hg, hn, hm, _, ht⟩
  · omega
  · refine ⟨g, cap, rfl, hB, lt_of_heap hg, fun j => own_frozen h j, fun j hj => ?_⟩
    rcases hc with ⟨o, c, e, e2⟩ | ⟨b, off, cap', e, _, _, h4⟩
    · subst e2; simp at h1
    · cases e
      have := h4 j hj
      simpa using this
theorem of_set {w : World} {B g cap : Nat} {zs : List Nat} (h : Of w B (.slice (some ⟨g, 0, none⟩) zs.length cap) zs) (k x : Nat) : Of (w.setCell ⟨g, k, none⟩ (.float .f32 x)) B (.slice (some ⟨g, 0, none⟩) zs.length cap) (zs.set k x) := by
  unfold Of at h ⊢
  rw [List.map_set, List.length_set]
  exact own_set h _ _
theorem cells_flN (w : World) (xs : List Nat) (e : Nat) : ∀ j u, ((xs.map fl : List Value))[j]? = some u → (w.alloc (.cells (xs.map fl).toArray e)).cell? ((⟨w.heap.size, 0, none⟩ : Addr).add j) = some u := by
  intro j u hu
  rw [Addr.add_lit, World.cell?_alloc_new, Nat.zero_add]
  rw [List.getElem?_toArray]
  exact hu
theorem of_app {w1 : World} {B : Nat} {v' : Value} {zs xs : List Nat} {m : Nat} (h : w1.ownsRow B 36 1 v' (zs.length + m) (zs.map fl ++ xs.map fl)) (hm : m = xs.length) : Of w1 B v' (zs ++ xs) := by
  unfold Of; rw [List.length_append, List.map_append, ← hm]; exact h
def SmPost (B : Nat) (w : World) (g : Nat) (a : Option Addr) (n cap : Nat) (e : Ending) (w' : World) : Prop :=
  ∃ r zs, e = .returned r ∧ Of w' w.heap.size r zs ∧ zs.length ≤ 263 ∧ Cur B w' g a n cap ∧ Only (fun j => g = j) w w'
set_option maxRecDepth 100000 in
set_option maxHeartbeats 2000000 in
theorem samples_any (B g : Nat) (a : Option Addr) (n cap : Nat) (w : World) (h : Cur B w g a n cap) :
    Calls Try.prog 115 #[.pointer (some ⟨g, 0, none⟩)] w (SmPost B w g a n cap) := by
  obtain ⟨i0, hi, hz0, hz1, hz2⟩ := info_parts info36
  have hglt := h.lt
  have hBg := h.two
  have HC := Lib.hid h
  clear h
  go_enter Try.func115, Try.ntmps115
  go_wp2_with fail
  refine (once_any B g a n cap _ _ HC.out (by omega) (by omega)).mono ?_
  rintro e w1 ⟨b1, rfl, hc, ho⟩
  have hs1 := ho.size
  have HC1 := Lib.hid hc
  have HO1 := Lib.hid ho
  clear HC hc ho
  cases b1
  · go_wp2_with fail
    refine (any_any B g a n cap _ HC1.out).mono ?_
    rintro e w2 ⟨r, l, rfl, hr, hl, hc, ho⟩
    have hs2 := ho.size
    have HC2 := Lib.hid hc
    have HO2 := Lib.hid (HO1.out.trans ho)
    have HR2 := Lib.hid hr
    have hg1 : g < w1.heap.size := HC1.out.lt
    clear hc ho HC1 HO1 hr
    go_wp2_with fail
    refine (once_any B g a n cap _ _ HC2.out (by omega) (by omega)).mono ?_
    rintro e w3 ⟨odd, rfl, hc, ho⟩
    have hs3 := ho.size
    have hr3 : Oc w3 w1.heap.size r l := ho.kept HR2.out fun q hq e => by have := (HR2.out.lt q hq).1; omega
    have HR3 := Lib.hid hr3.rc
    have HC3 := Lib.hid hc
    have HO3 := Lib.hid (HO2.out.trans ho)
    clear hc ho HC2 HO2 HR2 hr3
    go_wp2_with fail
    refine (encS_any r l odd (rowB l) _ HR3.out (by omega) rfl).mono ?_
    rintro e w4 ⟨s, rfl, hs, hb⟩
    have hs4 := hb.size
    have hg3 : g < w3.heap.size := HC3.out.lt
    obtain ⟨zs, hzs⟩ : ∃ zs, (if rowB l = true then encL l odd else []) = zs := ⟨_, rfl⟩
    have hzl : zs.length ≤ 260 := by
      have h1 := encL_len l odd
      rw [← hzs]
      split
      · omega
      · simp
    rw [hzs] at hs
    clear hzs
    have HO4 := Lib.hid (HO3.out.trans (only_below hb))
    have HC4 := Lib.hid (HC3.out.keep (Only.of_below hb) (by omega) (fun k hk => by omega))
    have hs04 := HO3.out.size
    have HS4 := Lib.hid (show Of w4 w.heap.size s zs from own_base hs hs04)
    clear hs hb HC3 HO3 HR3
    by_cases h0 : 0 < zs.length
    · obtain ⟨gb, sc, rfl, hgB, hgl, hfz, hcell⟩ := of_own HS4.out h0
      have HCELL := Lib.hid hcell
      have HFZ := Lib.hid hfz
      clear hcell hfz
      go_wp2_with fail
      refine (once_any B g a n cap _ _ HC4.out (by omega) (by omega)).mono ?_
      rintro e w5 ⟨b5, rfl, hc, ho⟩
      have hs5 := ho.size
      have hown5 : Of w5 w.heap.size (.slice (some ⟨gb, 0, none⟩) zs.length sc) zs := ho.kept HS4.out fun q hq e => by have := (HS4.out.lt q hq).1; omega
      have HC5 := Lib.hid hc
      have HO5 := Lib.hid (HO4.out.trans ho)
      have HZ5 := Lib.hid hown5
      clear hc ho HC4 HO4 HS4 hown5 HCELL HFZ
      cases b5
      · obtain ⟨zs5, hz5⟩ : ∃ q, q = zs := ⟨_, rfl⟩
        subst hz5
        obtain ⟨sa, hsa⟩ : ∃ q, q = some (⟨gb, 0, none⟩ : Addr) := ⟨_, rfl⟩
        rw [← hsa] at HZ5 ⊢
        clear hsa
        go_wp2_with fail
        refine (once_any B g a n cap _ _ HC5.out (by omega) (by omega)).mono ?_
        rintro e w6 ⟨b6, rfl, hc, ho⟩
        have hs6 := ho.size
        have hown6 : Of w6 w.heap.size (.slice sa zs5.length sc) zs5 := ho.kept HZ5.out fun q hq e => by have := (HZ5.out.lt q hq).1; omega
        have HC6 := Lib.hid hc
        have HO6 := Lib.hid (HO5.out.trans ho)
        have hs05 := HO6.out.size
        clear hc ho HC5 HO5 HZ5
        cases b6
        · go_wp2
          go_ret
          exact ⟨_, zs5, rfl, hown6, by omega, HC6.out, HO6.out⟩
        · go_wp2
          go_loopw [5] (fun o wr => ∃ ys : List Nat, ys.length ≤ 263 ∧ lenOf o = ys.length ∧ Hid (Of wr w.heap.size o ys) ∧ Hid (Cur B wr g a n cap) ∧ Hid (Only (fun j => g = j) w wr)) (fun o _ => 263 - lenOf o)
          case atStart => exact ⟨zs5, by omega, rfl, Lib.hid hown6, HC6, HO6⟩
          case round =>
            obtain ⟨ys, hy, hyl, hown, hcu, hon⟩ := hrel
            obtain ⟨ya, yc, rfl⟩ := of_form' hown.out
            have hws := hon.out.size
            by_cases hlt : ys.length < 260
            · have hrow : ∀ q, (Value.slice ya ys.length yc).ownBlock = some q → w.heap.size ≤ q := fun q hq => (hown.out.lt q hq).1
              have HR := Lib.hid hrow
              clear hrow
              go_wp2_with (at_builtin; refine wpList_append_at _ rfl _ _ 22 rfl w.heap.size 36 i0 (.float .f32 0) 1 4 Try.underlying22 hi hz0 hz1 hz2 rfl (by decide) _ ys.length (ys.map fl) rfl (own_below hown.out ((Below.refl _ _).alloc (Nat.le_refl _) _)) _ 4 4 ([1065353216, 1073741824, 1077936128, 1082130432].map fl) rfl rfl (cells_flN _ _ _) (fl_one _) (by unfold maxLen; omega) (by omega) (by simp; omega) (by omega) ?_; intro v' w7 hown7 hgrow7 hat7)
              have hgrow7 : (wr.alloc (.cells #[.float .f32 1065353216, .float .f32 1073741824, .float .f32 1077936128, .float .f32 1082130432] 36)).grownBy w7 (Value.slice ya ys.length yc).ownBlock := hgrow7
              have hc7 := Lib.hid (cur_app hcu.out hgrow7 (fun q hq => by have := HR.out q hq; omega))
              have ho7 := Lib.hid (only_app hon.out hgrow7 HR.out)
              have hof7 := Lib.hid (of_app hown7 rfl)
              obtain ⟨va, vc, hv⟩ := of_form' hof7.out
              clear hat7 hgrow7 hown7
              subst hv
              have hl7 : (ys ++ [1065353216, 1073741824, 1077936128, 1082130432]).length = ys.length + 4 := by simp
              rw [hl7] at hof7 ⊢
              go_roundw
              case rel => exact ⟨ys ++ [1065353216, 1073741824, 1077936128, 1082130432], by omega, by rw [hl7]; rfl, hof7, hc7, ho7⟩
              case measure => simp only [lenOf]; omega
            · have hge : ¬ (ys.length : Int) < 260 := by omega
              have hO := hown.out
              go_wp2
              go_ret
              exact ⟨_, ys, rfl, hO, by omega, hcu.out, hon.out⟩
      · go_wp2_with fail
        refine (below_any B g a n cap zs.length _ HC5.out (by omega) (by omega)).mono ?_
        rintro e w6 ⟨x, rfl, x0, x1, hc, ho⟩
        rw [if_neg (by omega)] at x1
        have hs6 := ho.size
        have hown6 : Of w6 w.heap.size (.slice (some ⟨gb, 0, none⟩) zs.length sc) zs := ho.kept HZ5.out fun q hq e => by have := (HZ5.out.lt q hq).1; omega
        have HC6 := Lib.hid hc
        have HO6 := Lib.hid (HO5.out.trans ho)
        clear hc ho HC5 HO5 HZ5
        go_wp2_with fail
        refine (level_any B g a n cap _ HC6.out).mono ?_
        rintro e w7 ⟨y, rfl, hc, ho⟩
        have hs7 := ho.size
        have hown7 : Of w7 w.heap.size (.slice (some ⟨gb, 0, none⟩) zs.length sc) zs := ho.kept hown6 fun q hq e => by have := (hown6.lt q hq).1; omega
        have HC7 := Lib.hid hc
        have HO7 := Lib.hid (HO6.out.trans ho)
        clear hc ho HC6 HO6 hown6
        obtain ⟨g2, c2, e2, _, _, hfz, hcell⟩ := of_own hown7 h0
        cases e2
        have hfx := hfz x.toNat
        have hcx := hcell x.toNat (by omega)
        have HN := Lib.hid (of_set hown7 x.toNat y)
        have HC8 := Lib.hid (HC7.out.setOther (p := ⟨gb, x.toNat, none⟩) (.float .f32 y) (by show gb ≠ g; omega) (by show B ≤ gb; omega))
        have HO8 := Lib.hid (HO7.out.setNew (p := ⟨gb, x.toNat, none⟩) (by show w.heap.size ≤ gb; omega) (.float .f32 y))
        clear hfz hcell hown7 HC7 HO7
        have hll : (zs.set x.toNat y).length = zs.length := List.length_set
        go_wp2_with fail
        obtain ⟨zs5, hz5⟩ : ∃ q, q = zs.set x.toNat y := ⟨_, rfl⟩
        rw [← hz5] at hll HN
        rw [← hll] at HN hzl ⊢
        obtain ⟨sa, hsa⟩ : ∃ q, q = some (⟨gb, 0, none⟩ : Addr) := ⟨_, rfl⟩
        rw [← hsa] at HN ⊢
        obtain ⟨w5', hw5'⟩ : ∃ q, q = w7.setCell ⟨gb, x.toNat, none⟩ (.float .f32 y) := ⟨_, rfl⟩
        rw [← hw5'] at HN HC8 HO8 ⊢
        have HC5 := HC8
        have HO5 := HO8
        have HZ5 := HN
        clear HC8 HO8 HN hsa hz5 hll hw5' hfx hcx h0
        go_wp2_with fail
        refine (once_any B g a n cap _ _ HC5.out (by omega) (by omega)).mono ?_
        rintro e w6 ⟨b6, rfl, hc, ho⟩
        have hs6 := ho.size
        have hown6 : Of w6 w.heap.size (.slice sa zs5.length sc) zs5 := ho.kept HZ5.out fun q hq e => by have := (HZ5.out.lt q hq).1; omega
        have HC6 := Lib.hid hc
        have HO6 := Lib.hid (HO5.out.trans ho)
        have hs05 := HO6.out.size
        clear hc ho HC5 HO5 HZ5
        cases b6
        · go_wp2
          go_ret
          exact ⟨_, zs5, rfl, hown6, by omega, HC6.out, HO6.out⟩
        · go_wp2
          go_loopw [5] (fun o wr => ∃ ys : List Nat, ys.length ≤ 263 ∧ lenOf o = ys.length ∧ Hid (Of wr w.heap.size o ys) ∧ Hid (Cur B wr g a n cap) ∧ Hid (Only (fun j => g = j) w wr)) (fun o _ => 263 - lenOf o)
          case atStart => exact ⟨zs5, by omega, rfl, Lib.hid hown6, HC6, HO6⟩
          case round =>
            obtain ⟨ys, hy, hyl, hown, hcu, hon⟩ := hrel
            obtain ⟨ya, yc, rfl⟩ := of_form' hown.out
            have hws := hon.out.size
            by_cases hlt : ys.length < 260
            · have hrow : ∀ q, (Value.slice ya ys.length yc).ownBlock = some q → w.heap.size ≤ q := fun q hq => (hown.out.lt q hq).1
              have HR := Lib.hid hrow
              clear hrow
              go_wp2_with (at_builtin; refine wpList_append_at _ rfl _ _ 22 rfl w.heap.size 36 i0 (.float .f32 0) 1 4 Try.underlying22 hi hz0 hz1 hz2 rfl (by decide) _ ys.length (ys.map fl) rfl (own_below hown.out ((Below.refl _ _).alloc (Nat.le_refl _) _)) _ 4 4 ([1065353216, 1073741824, 1077936128, 1082130432].map fl) rfl rfl (cells_flN _ _ _) (fl_one _) (by unfold maxLen; omega) (by omega) (by simp; omega) (by omega) ?_; intro v' w7 hown7 hgrow7 hat7)
              have hgrow7 : (wr.alloc (.cells #[.float .f32 1065353216, .float .f32 1073741824, .float .f32 1077936128, .float .f32 1082130432] 36)).grownBy w7 (Value.slice ya ys.length yc).ownBlock := hgrow7
              have hc7 := Lib.hid (cur_app hcu.out hgrow7 (fun q hq => by have := HR.out q hq; omega))
              have ho7 := Lib.hid (only_app hon.out hgrow7 HR.out)
              have hof7 := Lib.hid (of_app hown7 rfl)
              obtain ⟨va, vc, hv⟩ := of_form' hof7.out
              clear hat7 hgrow7 hown7
              subst hv
              have hl7 : (ys ++ [1065353216, 1073741824, 1077936128, 1082130432]).length = ys.length + 4 := by simp
              rw [hl7] at hof7 ⊢
              go_roundw
              case rel => exact ⟨ys ++ [1065353216, 1073741824, 1077936128, 1082130432], by omega, by rw [hl7]; rfl, hof7, hc7, ho7⟩
              case measure => simp only [lenOf]; omega
            · have hge : ¬ (ys.length : Int) < 260 := by omega
              have hO := hown.out
              go_wp2
              go_ret
              exact ⟨_, ys, rfl, hO, by omega, hcu.out, hon.out⟩
    · have hno : ¬ (0 : Int) < (zs.length : Int) := by omega
      obtain ⟨sa, sc, rfl⟩ := of_form' HS4.out
      obtain ⟨zs5, hz5⟩ : ∃ q, q = zs := ⟨_, rfl⟩
      subst hz5
      have HC5 := HC4
      have HO5 := HO4
      have HZ5 := HS4
      clear HC4 HO4 HS4 h0
      go_wp2_with fail
      refine (once_any B g a n cap _ _ HC5.out (by omega) (by omega)).mono ?_
      rintro e w6 ⟨b6, rfl, hc, ho⟩
      have hs6 := ho.size
      have hown6 : Of w6 w.heap.size (.slice sa zs5.length sc) zs5 := ho.kept HZ5.out fun q hq e => by have := (HZ5.out.lt q hq).1; omega
      have HC6 := Lib.hid hc
      have HO6 := Lib.hid (HO5.out.trans ho)
      have hs05 := HO6.out.size
      clear hc ho HC5 HO5 HZ5
      cases b6
      · go_wp2
        go_ret
        exact ⟨_, zs5, rfl, hown6, by omega, HC6.out, HO6.out⟩
      · go_wp2
        go_loopw [5] (fun o wr => ∃ ys : List Nat, ys.length ≤ 263 ∧ lenOf o = ys.length ∧ Hid (Of wr w.heap.size o ys) ∧ Hid (Cur B wr g a n cap) ∧ Hid (Only (fun j => g = j) w wr)) (fun o _ => 263 - lenOf o)
        case atStart => exact ⟨zs5, by omega, rfl, Lib.hid hown6, HC6, HO6⟩
        case round =>
          obtain ⟨ys, hy, hyl, hown, hcu, hon⟩ := hrel
          obtain ⟨ya, yc, rfl⟩ := of_form' hown.out
          have hws := hon.out.size
          by_cases hlt : ys.length < 260
          · have hrow : ∀ q, (Value.slice ya ys.length yc).ownBlock = some q → w.heap.size ≤ q := fun q hq => (hown.out.lt q hq).1
            have HR := Lib.hid hrow
            clear hrow
            go_wp2_with (at_builtin; refine wpList_append_at _ rfl _ _ 22 rfl w.heap.size 36 i0 (.float .f32 0) 1 4 Try.underlying22 hi hz0 hz1 hz2 rfl (by decide) _ ys.length (ys.map fl) rfl (own_below hown.out ((Below.refl _ _).alloc (Nat.le_refl _) _)) _ 4 4 ([1065353216, 1073741824, 1077936128, 1082130432].map fl) rfl rfl (cells_flN _ _ _) (fl_one _) (by unfold maxLen; omega) (by omega) (by simp; omega) (by omega) ?_; intro v' w7 hown7 hgrow7 hat7)
            have hgrow7 : (wr.alloc (.cells #[.float .f32 1065353216, .float .f32 1073741824, .float .f32 1077936128, .float .f32 1082130432] 36)).grownBy w7 (Value.slice ya ys.length yc).ownBlock := hgrow7
            have hc7 := Lib.hid (cur_app hcu.out hgrow7 (fun q hq => by have := HR.out q hq; omega))
            have ho7 := Lib.hid (only_app hon.out hgrow7 HR.out)
            have hof7 := Lib.hid (of_app hown7 rfl)
            obtain ⟨va, vc, hv⟩ := of_form' hof7.out
            clear hat7 hgrow7 hown7
            subst hv
            have hl7 : (ys ++ [1065353216, 1073741824, 1077936128, 1082130432]).length = ys.length + 4 := by simp
            rw [hl7] at hof7 ⊢
            go_roundw
            case rel => exact ⟨ys ++ [1065353216, 1073741824, 1077936128, 1082130432], by omega, by rw [hl7]; rfl, hof7, hc7, ho7⟩
            case measure => simp only [lenOf]; omega
          · have hge : ¬ (ys.length : Int) < 260 := by omega
            have hO := hown.out
            go_wp2
            go_ret
            exact ⟨_, ys, rfl, hO, by omega, hcu.out, hon.out⟩
  · go_wp2_with fail
    refine (below_any B g a n cap 14 _ (HC1.out.alloc HC1.out.lt _) (by omega) (by omega)).mono ?_
    rintro e w2 ⟨x, rfl, x0, x1, hc, ho⟩
    rw [if_neg (by omega)] at x1
    obtain ⟨m, rfl⟩ : ∃ m : Nat, x = (m : Int) := ⟨x.toNat, by omega⟩
    have hm : m ≤ 13 := by omega
    have hrow : Of w2 w1.heap.size (.slice (some ⟨w1.heap.size, 0, none⟩) 0 0) [] := ho.kept (own_nilrow w1) fun k hk e => by
      have e : g = w1.heap.size := by cases hk; exact e
      omega
    have hrow' := Lib.hid (show Of w2 w.heap.size (.slice (some ⟨w1.heap.size, 0, none⟩) 0 0) [] from own_base hrow hs1)
    have HC2 := Lib.hid hc
    have HO2 := Lib.hid ((HO1.out.alloc _).trans ho)
    clear hc ho HC1 HO1 hrow
    go_wp2
    go_loopw [3, 4] (fun o i wr => ∃ (k : Nat) (zs : List Nat), zs.length + k = m ∧ i = .int .i64 k ∧ Hid (Of wr w.heap.size o zs) ∧ Hid (Cur B wr g a n cap) ∧ Hid (Only (fun j => g = j) w wr)) (fun _ i _ => (intOf i).toNat)
    case atStart => exact ⟨m, [], by simp, rfl, hrow', HC2, HO2⟩
    case round =>
      obtain ⟨k, zs, hl, rfl, hown, hcu, hon⟩ := hrel
      have hk : k ≤ 13 := by omega
      have hz : zs.length ≤ 13 := by omega
      have HL := Lib.hid hl
      have hws := hon.out.size
      clear hl
      by_cases hlt : 0 < k
      · go_wp2_with fail
        refine (level_any B g a n cap _ hcu.out).mono ?_
        rintro e w3 ⟨y, rfl, hc3, ho3⟩
        have hs3 := ho3.size
        have hown3 : Of w3 w.heap.size u3 zs := ho3.kept hown.out fun q hq e => by have := (hown.out.lt q hq).1; omega
        have HC3 := Lib.hid hc3
        have HO3 := Lib.hid (hon.out.trans ho3)
        have hrow3 : ∀ q, u3.ownBlock = some q → w.heap.size ≤ q := fun q hq => (hown3.lt q hq).1
        have HR := Lib.hid hrow3
        clear hc3 ho3 hrow3 hcu hon hown
        go_wp2_with (at_builtin; refine wpList_append_at _ rfl _ _ 22 rfl w.heap.size 36 i0 (.float .f32 0) 1 4 Try.underlying22 hi hz0 hz1 hz2 rfl (by decide) _ zs.length (zs.map fl) rfl (own_below hown3 ((Below.refl _ _).alloc (Nat.le_refl _) _)) _ 1 1 [fl y] rfl rfl (cells_fl _ _ _) (by simp [Value.oneCell']) (by unfold maxLen; omega) (by omega) (by simp; omega) (by omega) ?_; intro v' w5 hown5 hgrow5 hat5)
        have hgrow5 : (w3.alloc (.cells #[fl y] 36)).grownBy w5 u3.ownBlock := hgrow5
        have hc5 := Lib.hid (cur_app HC3.out hgrow5 (fun q hq => by have := HR.out q hq; omega))
        have ho5 := Lib.hid (only_app HO3.out hgrow5 HR.out)
        have hof := Lib.hid (of_snoc hown5)
        clear hat5 hgrow5 hown5
        go_roundw
        case rel => exact ⟨k - 1, zs ++ [y], by have := HL.out; simp; omega, by congr 1; omega, hof, hc5, ho5⟩
        case measure => simp [intOf]; omega
      · have hk0 : k = 0 := by omega
        subst hk0
        have hO := hown.out
        go_wp2
        go_ret
        exact ⟨_, zs, rfl, hO, by omega, hcu.out, hon.out⟩
end Go.Proofs.Ytbjllfnjecggfaa
