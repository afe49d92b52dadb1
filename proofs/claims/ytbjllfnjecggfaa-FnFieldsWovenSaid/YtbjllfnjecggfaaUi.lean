/- Walks: the drawing of arguments: a row of cells. -/
import Derived.Test.YtbjllfnjecggfaaUk
import Derived.Test.YtbjllfnjecggfaaAp
import Derived.Test.YtbjllfnjecggfaaCe
namespace Go.Proofs.Ytbjllfnjecggfaa
open Go.RowKit

/-- a draw of a row of so many cells -/
def CsPost (B : Nat) (w : World) (g : Nat) (a : Option Addr) (n cap : Nat) (m : Nat) (e : Ending) (w' : World) : Prop :=
  ∃ r l, e = .returned r ∧ Oc w' w.heap.size r l ∧ l.length = m ∧ Cur B w' g a n cap ∧ Only (fun j => g = j) w w'
theorem cell_two {w : World} {b : Nat} {x y : Value} {t : TypeId} (h : w.heap[b]? = some (.cells #[x, y] t (0, 0))) : w.cell? ⟨b, 0, none⟩ = some x ∧ w.cell? ⟨b, 1, none⟩ = some y ∧ w.frozen? ⟨b, 0, none⟩ = false ∧ w.frozen? ⟨b, 1, none⟩ = false := by
  refine ⟨?_, ?_, ?_, ?_⟩ <;> simp [World.cell?, World.frozen?, h]
theorem set_two {w : World} {b : Nat} {x y : Value} {t : TypeId} (h : w.heap[b]? = some (.cells #[x, y] t (0, 0))) (p q : Value) : ((w.setCell ⟨b, 0, none⟩ p).setCell ⟨b, 1, none⟩ q).heap[b]? = some (.cells #[p, q] t (0, 0)) := by
  simp [World.setCell, Array.getElem?_modify, h]
theorem lt_of_heap {w : World} {b : Nat} {o : Obj} (h : w.heap[b]? = some o) : b < w.heap.size := by
  rcases Nat.lt_or_ge b w.heap.size with h' | h'
  · exact h'
  · rw [Array.getElem?_eq_none h'] at h; cases h
theorem only_app {w w1 w2 : World} {o : Obj} {g : Nat} {row : Option Nat} (h : Only (fun j => g = j) w w1) (hg : (w1.alloc o).grownBy w2 row) (hr : ∀ k, row = some k → w.heap.size ≤ k) : Only (fun j => g = j) w w2 := by
  refine ⟨hg.os.trans h.os, hg.tape.trans h.tape, hg.output.trans h.output, Nat.le_trans h.size (Nat.le_trans (by simp) hg.size), fun k hk hn => ?_⟩
  have hs := h.size
  rw [hg.block k (by simp; omega) (fun e => by have := hr k e.symm; omega), Below.heap_alloc _ _ _ (by omega)]
  exact h.block k hk hn
theorem cur_app {B g : Nat} {a : Option Addr} {n cap : Nat} {w1 w2 : World} {o : Obj} {row : Option Nat} (h : Cur B w1 g a n cap) (hg : (w1.alloc o).grownBy w2 row) (hr : ∀ k, row = some k → g < k) : Cur B w2 g a n cap :=
  (h.alloc h.lt _).keep (Only.of_grown hg) (fun hs => by have := hr g hs.symm; omega) (fun k hs => by have := hr k hs.symm; have := h.two; omega)
set_option maxRecDepth 100000 in
set_option maxHeartbeats 2000000 in
theorem cells_any (B g : Nat) (a : Option Addr) (n cap : Nat) (m : Nat) (w : World) (h : Cur B w g a n cap) (hm : m ≤ 65) :
    Calls Try.prog 111 #[.pointer (some ⟨g, 0, none⟩), .int .i64 m] w (CsPost B w g a n cap m) := by
  obtain ⟨i0, hi, hz0, hz1, hz2⟩ := info_parts info48
  have hglt := h.lt
  have hBg := h.two
  have HC := Lib.hid h
  clear h
  go_enter Try.func111, Try.ntmps111
  go_wp2_with fail
  refine (cell_any B g a n cap _ (HC.out.alloc hglt _)).mono ?_
  rintro e w1 ⟨y, re, im, rfl, hc, ho⟩
  have hs1 : w.heap.size + 1 ≤ w1.heap.size := by have := ho.size; simpa using this
  have hrow : Oc w1 w.heap.size (.slice (some ⟨w.heap.size, 0, none⟩) 0 0) [] := ho.kept (oc_nil w) fun k hk e => by
    have e : g = w.heap.size := by cases hk; exact e
    omega
  have hcx := hc.alloc (by omega) (.cells #[.float .f32 y, .complex .f32 re im] 48)
  have hox := (((Only.refl (fun j => g = j) w).alloc (.cells #[] 48)).trans ho).alloc (.cells #[.float .f32 y, .complex .f32 re im] 48)
  have hrx := own_below hrow ((Below.refl _ w1).alloc (Nat.le_refl _) (.cells #[.float .f32 y, .complex .f32 re im] 48))
  have HCX := Lib.hid hcx
  have HOX := Lib.hid hox
  clear HC hc ho hrow hcx hox
  go_wp2
  go_loopw [1, 5] (fun i o wr => ∃ (k : Nat) (l : List CV) (y re im : Nat), l.length + k = m ∧ i = .int .i64 k ∧ Oc wr w.heap.size o l ∧ Hid (∀ q, o.ownBlock = some q → q ≠ w1.heap.size) ∧ wr.heap[w1.heap.size]? = some (.cells #[.float .f32 y, .complex .f32 re im] 48 (0, 0)) ∧ Hid (Cur B wr g a n cap) ∧ Hid (Only (fun j => g = j) w wr)) (fun i _ _ => (intOf i).toNat)
  case atStart => exact ⟨m, [], y, re, im, by simp, rfl, hrx, Lib.hid (fun q hq => by cases hq; show w.heap.size ≠ w1.heap.size; omega), heap_alloc_new w1 _, HCX, HOX⟩
  case round =>
    obtain ⟨k, l, y, re, im, hl, rfl, hown, hne, hx, hcu, hon⟩ := hrel
    have HX := Lib.hid hx
    have HL := Lib.hid hl
    have hk65 : k ≤ 65 := by omega
    have hl65 : l.length ≤ 65 := by omega
    have hxlt := lt_of_heap hx
    clear hl hx
    by_cases hlt : 0 < k
    · go_wp2_with fail
      refine (once_any B g a n cap _ _ hcu.out (by omega) (by omega)).mono ?_
      rintro e w2 ⟨b, rfl, hc2, ho2⟩
      have hs2 := ho2.size
      have hown2 : Oc w2 w.heap.size u5 l := ho2.kept hown fun q hq e => by have := (hown.lt q hq).1; omega
      have hx2 : w2.heap[w1.heap.size]? = some (.cells #[.float .f32 y, .complex .f32 re im] 48 (0, 0)) := (ho2.block _ hxlt (by omega)).trans HX.out
      have HC2 := Lib.hid hc2
      have HO2 := Lib.hid (hon.out.trans ho2)
      clear hcu hon HX hc2 ho2 hown
      have hrow : ∀ q, u5.ownBlock = some q → w.heap.size ≤ q := fun q hq => (hown2.lt q hq).1
      have HR := Lib.hid hrow
      clear hrow
      cases b
      · have hs0 := HO2.out.size
        go_wp2_with fail
        refine (cell_any B g a n cap _ HC2.out).mono ?_
        rintro e w3 ⟨y', re', im', rfl, hc3, ho3⟩
        have hs3 := ho3.size
        have hown3 : Oc w3 w.heap.size u5 l := ho3.kept hown2 fun q hq e => by have := (hown2.lt q hq).1; omega
        have hx3 : w3.heap[w1.heap.size]? = some (.cells #[.float .f32 y, .complex .f32 re im] 48 (0, 0)) := (ho3.block _ (by omega) (by omega)).trans hx2
        have hx4 := set_two hx3 (.float .f32 y') (.complex .f32 re' im')
        obtain ⟨p1, p2, p3, p4⟩ := cell_two hx3
        obtain ⟨r1, r2, r3, r4⟩ := cell_two hx4
        have HX4 := Lib.hid hx4
        have hc4 : Cur B ((w3.setCell ⟨w1.heap.size, 0, none⟩ (.float .f32 y')).setCell ⟨w1.heap.size, 1, none⟩ (.complex .f32 re' im')) g a n cap := (hc3.setOther _ (by show w1.heap.size ≠ g; omega) (by show B ≤ w1.heap.size; omega)).setOther _ (by show w1.heap.size ≠ g; omega) (by show B ≤ w1.heap.size; omega)
        have ho4 : Only (fun j => g = j) w ((w3.setCell ⟨w1.heap.size, 0, none⟩ (.float .f32 y')).setCell ⟨w1.heap.size, 1, none⟩ (.complex .f32 re' im')) := ((HO2.out.trans ho3).setNew (p := ⟨w1.heap.size, 0, none⟩) (by show w.heap.size ≤ w1.heap.size; omega) _).setNew (p := ⟨w1.heap.size, 1, none⟩) (by show w.heap.size ≤ w1.heap.size; omega) _
        have hown4 : Oc ((w3.setCell ⟨w1.heap.size, 0, none⟩ (.float .f32 y')).setCell ⟨w1.heap.size, 1, none⟩ (.complex .f32 re' im')) w.heap.size u5 l := (((Only.refl (fun j => w1.heap.size = j) w3).setCell (p := ⟨w1.heap.size, 0, none⟩) rfl _).setCell (p := ⟨w1.heap.size, 1, none⟩) rfl _).kept hown3 fun q hq e => hne.out q hq e.symm
        have HC4 := Lib.hid hc4
        have HO4 := Lib.hid ho4
        clear HC2 HO2 hc3 ho3 hown2 hown3 hx2 hx3 hx4 hc4 ho4
        have hs4 : w.heap.size ≤ ((w3.setCell ⟨w1.heap.size, 0, none⟩ (.float .f32 y')).setCell ⟨w1.heap.size, 1, none⟩ (.complex .f32 re' im')).heap.size := HO4.out.size
        go_wp2_with (at_builtin; refine wpList_append_at _ rfl _ _ 40 rfl w.heap.size 48 i0 (.agg #[.float .f32 0, .complex .f32 0 0]) 2 12 Try.underlying40 hi hz0 hz1 hz2 rfl (by decide) _ l.length (cells l) rfl (own_below hown4 ((Below.refl _ _).alloc (Nat.le_refl _) _)) _ 1 1 [.float .f32 y', .complex .f32 re' im'] rfl rfl (cells_cg _ _ _ _ _ _ (by simp)) (by simp [Value.oneCell']) (by unfold maxLen; omega) (by omega) (by simp; omega) (by omega) ?_; intro v' w5 hown5 hgrow5 hat5)
        have hgrow5 : (((w3.setCell ⟨w1.heap.size, 0, none⟩ (.float .f32 y')).setCell ⟨w1.heap.size, 1, none⟩ (.complex .f32 re' im')).alloc (.cells #[.float .f32 y', .complex .f32 re' im'] 48)).grownBy w5 u5.ownBlock := hgrow5
        have hw5 := hgrow5.size
        simp only [World.size_alloc] at hw5
        have hc5 := Lib.hid (cur_app HC4.out hgrow5 (fun q hq => by have := HR.out q hq; omega))
        have ho5 := Lib.hid (only_app HO4.out hgrow5 HR.out)
        have hxx : w1.heap.size < ((w3.setCell ⟨w1.heap.size, 0, none⟩ (.float .f32 y')).setCell ⟨w1.heap.size, 1, none⟩ (.complex .f32 re' im')).heap.size := lt_of_heap HX4.out
        have hx5 : w5.heap[w1.heap.size]? = some (.cells #[.float .f32 y', .complex .f32 re' im'] 48 (0, 0)) := by
          rw [hgrow5.block _ (by simp only [World.size_alloc]; omega) (fun e => hne.out _ e.symm rfl), Below.heap_alloc _ _ _ hxx]
          exact HX4.out
        have hne5 : Hid (∀ q, v'.ownBlock = some q → q ≠ w1.heap.size) := Lib.hid fun q hq => by
          rcases hat5 q hq with h | h
          · exact hne.out q h
          · have : ((w3.setCell ⟨w1.heap.size, 0, none⟩ (.float .f32 y')).setCell ⟨w1.heap.size, 1, none⟩ (.complex .f32 re' im')).heap.size + 1 ≤ q := by simpa using h
            omega
        have HX5 := Lib.hid hx5
        clear hat5 hgrow5 hx5
        go_roundw
        case rel => exact ⟨k - 1, l ++ [(y', re', im')], y', re', im', by have := HL.out; simp; omega, by congr 1; omega, oc_snoc hown5, hne5, HX5.out, hc5, ho5⟩
        case measure => simp [intOf]; omega
      · have hs4 : w.heap.size ≤ w2.heap.size := HO2.out.size
        have HX2 := Lib.hid hx2
        obtain ⟨r1, r2, r3, r4⟩ := cell_two hx2
        clear hx2
        go_wp2_with (at_builtin; refine wpList_append_at _ rfl _ _ 40 rfl w.heap.size 48 i0 (.agg #[.float .f32 0, .complex .f32 0 0]) 2 12 Try.underlying40 hi hz0 hz1 hz2 rfl (by decide) _ l.length (cells l) rfl (own_below hown2 ((Below.refl _ _).alloc (Nat.le_refl _) _)) _ 1 1 [.float .f32 y, .complex .f32 re im] rfl rfl (cells_cg _ _ _ _ _ _ (by simp)) (by simp [Value.oneCell']) (by unfold maxLen; omega) (by omega) (by simp; omega) (by omega) ?_; intro v' w5 hown5 hgrow5 hat5)
        have hgrow5 : (w2.alloc (.cells #[.float .f32 y, .complex .f32 re im] 48)).grownBy w5 u5.ownBlock := hgrow5
        have hw5 := hgrow5.size
        simp only [World.size_alloc] at hw5
        have hc5 := Lib.hid (cur_app HC2.out hgrow5 (fun q hq => by have := HR.out q hq; omega))
        have ho5 := Lib.hid (only_app HO2.out hgrow5 HR.out)
        have hxx : w1.heap.size < w2.heap.size := lt_of_heap HX2.out
        have hx5 : w5.heap[w1.heap.size]? = some (.cells #[.float .f32 y, .complex .f32 re im] 48 (0, 0)) := by
          rw [hgrow5.block _ (by simp only [World.size_alloc]; omega) (fun e => hne.out _ e.symm rfl), Below.heap_alloc _ _ _ hxx]
          exact HX2.out
        have hne5 : Hid (∀ q, v'.ownBlock = some q → q ≠ w1.heap.size) := Lib.hid fun q hq => by
          rcases hat5 q hq with h | h
          · exact hne.out q h
          · have : w2.heap.size + 1 ≤ q := by simpa using h
            omega
        have HX5 := Lib.hid hx5
        clear hat5 hgrow5 hx5
        go_roundw
        case rel => exact ⟨k - 1, l ++ [(y, re, im)], y, re, im, by have := HL.out; simp; omega, by congr 1; omega, oc_snoc hown5, hne5, HX5.out, hc5, ho5⟩
        case measure => simp [intOf]; omega
    · have hk0 : k = 0 := by omega
      subst hk0
      go_wp2
      go_ret
      exact ⟨_, l, rfl, hown, by have := HL.out; omega, hcu.out, hon.out⟩
end Go.Proofs.Ytbjllfnjecggfaa
