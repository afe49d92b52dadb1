/- Walks: the drawing of rows of numbers in sixteenths. -/
import Derived.Test.YtbjllfnjecggfaaUj
import Derived.Test.YtbjllfnjecggfaaFe
namespace Go.Proofs.Ytbjllfnjecggfaa
open Go.RowKit

/-- a number of at most so many sixteenths -/
def Six (K : Nat) (x : Nat) : Prop := ∃ k : Int, k.natAbs ≤ K ∧ Fl.sc Ieee.single x = some (Fl.six k)
def plC (c : CV) : Prop := Six 1024 c.1 ∧ Six 512 c.2.1 ∧ Six 512 c.2.2
def plL (l : List CV) : Prop := ∀ c ∈ l, plC c
def DpPost (B : Nat) (w : World) (g : Nat) (a : Option Addr) (n cap : Nat) (e : Ending) (w' : World) : Prop :=
  ∃ x y z : Nat, e = .returned (.agg #[.float .f32 x, .complex .f32 y z]) ∧ plC (x, y, z) ∧ Cur B w' g a n cap ∧ Only (fun j => g = j) w w'
theorem six_of {K : Nat} {n : Int} (w : World) (h : n.natAbs ≤ K) (hK : K < 2 ^ 24) : Six K (Fl.fbits w .quo .f32 (floatOfInt .f32 n) 1098907648) :=
  ⟨n, h, Fl.fv_sv (Fl.fv_fbits _ _ _ _ _) (Fl.sv6_int n (by omega))⟩
set_option maxRecDepth 100000 in
set_option maxHeartbeats 1000000 in
theorem plain_any (B g : Nat) (a : Option Addr) (n cap : Nat) (w : World) (h : Cur B w g a n cap) :
    Calls Try.prog 96 #[.pointer (some ⟨g, 0, none⟩)] w (DpPost B w g a n cap) := by
  have HC := Lib.hid h
  clear h
  go_enter Try.func96, Try.ntmps96
  have hlt := HC.out.lt
  have keep : ∀ (w1 w2 : World) (j : Nat), Only (fun j => g = j) w1 w2 → w.heap.size < w1.heap.size → w2.cell? ⟨w.heap.size, j, none⟩ = w1.cell? ⟨w.heap.size, j, none⟩ ∧ w2.frozen? ⟨w.heap.size, j, none⟩ = w1.frozen? ⟨w.heap.size, j, none⟩ := fun w1 w2 j ho hs =>
    ⟨World.cell?_of_block (a := ⟨w.heap.size, j, none⟩) (ho.block w.heap.size hs (by omega)), World.frozen?_of_block (a := ⟨w.heap.size, j, none⟩) (ho.block w.heap.size hs (by omega))⟩
  go_wp2_with fail
  refine (below_any B g a n cap 2049 _ (HC.out.alloc hlt _) (by omega) (by omega)).mono ?_
  rintro e w1 ⟨x, rfl, x0, x1, hc, ho⟩
  rw [if_neg (by omega)] at x1
  have HC1 := Lib.hid hc
  have k0 := keep _ _ 0 ho (by simp)
  have k1 := keep _ _ 1 ho (by simp)
  have s1 := ho.size
  have HO := Lib.hid (((Only.refl _ w).alloc _).trans ho)
  clear HC hc ho
  simp at k0 k1 s1
  go_wp2_with fail
  refine (below_any B g a n cap 1025 _ (by repeat (first | exact HC1.out | refine Cur.drewN ?_ _)) (by omega) (by omega)).mono ?_
  rintro e w2 ⟨y, rfl, y0, y1, hc, ho⟩
  rw [if_neg (by omega)] at y1
  have m0 := keep _ _ 0 ho (by simp; omega)
  have m1 := keep _ _ 1 ho (by simp; omega)
  have s2 := ho.size
  simp at m0 m1 s2
  rw [k0.1, k0.2] at m0
  rw [k1.1, k1.2] at m1
  replace HO := Lib.hid ((HO.out.drewN _).trans ho)
  have HC2 := Lib.hid hc
  clear HC1 hc ho k0 k1
  go_wp2_with fail
  refine (below_any B g a n cap 1025 _ (by repeat (first | exact HC2.out | refine Cur.drewN ?_ _)) (by omega) (by omega)).mono ?_
  rintro e w3 ⟨z, rfl, z0, z1, hc, ho⟩
  rw [if_neg (by omega)] at z1
  have k0 := keep _ _ 0 ho (by simp; omega)
  have k1 := keep _ _ 1 ho (by simp; omega)
  simp at k0 k1
  rw [m0.1, m0.2] at k0
  rw [m1.1, m1.2] at k1
  replace HO := Lib.hid ((HO.out.drewN _).trans ho)
  have HC3 := Lib.hid hc
  clear HC2 hc ho m0 m1
  obtain ⟨c0', f0⟩ := k0
  obtain ⟨c1, f1⟩ := k1
  go_wp2_with fail
  refine bodyPost_ret (results_cellC rfl _ _ rfl (set2 _ _ c0' c1).1 (set2 _ _ c0' c1).2) rfl ⟨_, _, _, rfl, ⟨six_of _ (by omega) (by omega), six_of _ (by omega) (by omega), six_of _ (by omega) (by omega)⟩, ?_, ?_⟩
  · exact ((HC3.out.drewN _).setOther _ (by show w.heap.size ≠ g; omega) (by show B ≤ w.heap.size; have := HC3.out.two; omega)).setOther _ (by show w.heap.size ≠ g; omega) (by show B ≤ w.heap.size; have := HC3.out.two; omega)
  · exact ((HO.out.drewN _).setNew (p := ⟨w.heap.size, 0, none⟩) (Nat.le_refl _) _).setNew (p := ⟨w.heap.size, 1, none⟩) (Nat.le_refl _) _
def PrPost (w : World) (e : Ending) (w' : World) : Prop := ∃ r l, e = .returned r ∧ Oc w' w.heap.size r l ∧ plL l ∧ 1 ≤ l.length ∧ l.length ≤ 6 ∧ Below w.heap.size w w'
set_option maxRecDepth 100000 in
set_option maxHeartbeats 1000000 in
theorem drawPlainRow (a : Option Addr) (n cap : Nat) (w : World) (hB : By w.heap.size w a n) (hn : n ≤ 1048576) :
    Calls Try.prog 47 #[.slice a n cap] w (PrPost w) := by
  obtain ⟨i0, hi, hz0, hz1, hz2⟩ := info_parts info48
  go_enter Try.func47, Try.ntmps47
  go_wp2_with fail
  refine (new_any w.heap.size a n cap w hB hn (Nat.le_refl _)).mono ?_
  rintro e w1 ⟨g, rfl, hc, hg1, hg2, hb1⟩
  have hlt1 := hc.lt
  have HC := Lib.hid hc
  clear hc
  go_wp2_with fail
  refine (below_any _ g a n cap 6 _ (HC.out.alloc hlt1 _) (by omega) (by omega)).mono ?_
  rintro e w2 ⟨x, rfl, x0, x1, hc, ho⟩
  rw [if_neg (by omega)] at x1
  obtain ⟨m, hm⟩ : ∃ m : Nat, 1 + x = (m : Int) := ⟨(1 + x).toNat, by omega⟩
  have hm6 : m ≤ 6 := by omega
  have hm1 : 1 ≤ m := by omega
  have hrow : Oc w2 w1.heap.size (.slice (some ⟨w1.heap.size, 0, none⟩) 0 0) [] := ho.kept (oc_nil w1) fun k hk e => by
    have e : g = w1.heap.size := by cases hk; exact e
    omega
  have hrow' : Oc w2 w.heap.size (.slice (some ⟨w1.heap.size, 0, none⟩) 0 0) [] := own_base hrow hb1.size
  have hba : Below w.heap.size w (w1.alloc (.cells #[] 48)) := hb1.alloc hb1.size _
  have hb2 : Below w.heap.size w w2 := hba.trans (below_of_only ho hba.size (fun k hk => by omega))
  have HC2 := Lib.hid hc
  have HG : Hid (∀ k, (Value.slice (some ⟨w1.heap.size, 0, none⟩) 0 0).ownBlock = some k → g ≠ k) := Lib.hid fun k hk => by
    have e : w1.heap.size = k := by simpa [Value.ownBlock] using hk
    omega
  have HB2 := Lib.hid hb2
  clear HC hc ho hrow hba hb2
  go_wp2
  go_loopw [4, 5] (fun o i wr => ∃ (k : Nat) (l : List CV), l.length + k = m ∧ i = .int .i64 k ∧ Oc wr w.heap.size o l ∧ Hid (plL l) ∧ Hid (∀ q, o.ownBlock = some q → g ≠ q) ∧ Hid (Cur w.heap.size wr g a n cap) ∧ Hid (Below w.heap.size w wr)) (fun _ i _ => (intOf i).toNat)
  case atStart => exact ⟨m, [], by simp, rfl, hrow', Lib.hid (by intro c hc; cases hc), HG, HC2, HB2⟩
  case round =>
    obtain ⟨k, l, hl, rfl, hown, hpl, hne, hcu, hbe⟩ := hrel
    have hl6 : l.length ≤ 6 := by omega
    have hk6 : k ≤ 6 := by omega
    have HL := Lib.hid hl
    clear hl
    by_cases hlt : 0 < k
    · have hbs := hbe.out.size
      go_wp2_with fail
      refine (plain_any _ g a n cap _ hcu.out).mono ?_
      rintro e w3 ⟨y, re, im, rfl, hpc, hc3, ho3⟩
      have hs3 := ho3.size
      have hown3 : Oc w3 w.heap.size u4 l := ho3.kept hown fun q hq e => hne.out q hq e
      have HB3 := Lib.hid (hbe.out.trans (below_of_only ho3 hbs (fun k hk => by omega)))
      have hglt := hc3.lt
      have HC3 := Lib.hid hc3
      have HP := Lib.hid hpc
      have hrow3 : ∀ q, u4.ownBlock = some q → w.heap.size ≤ q := fun q hq => (hown3.lt q hq).1
      have HR := Lib.hid hrow3
      clear hcu hbe hc3 ho3 hown hpc hrow3
      go_wp2_with (at_builtin; refine wpList_append_at _ rfl _ _ 40 rfl w.heap.size 48 i0 (.agg #[.float .f32 0, .complex .f32 0 0]) 2 12 Try.underlying40 hi hz0 hz1 hz2 rfl (by decide) _ l.length (cells l) rfl (own_below hown3 ((Below.refl _ _).alloc (Nat.le_refl _) _)) _ 1 1 [.float .f32 y, .complex .f32 re im] rfl rfl (cells_cg _ _ _ _ _ _ (by simp)) (by simp [Value.oneCell']) (by unfold maxLen; omega) (by omega) (by simp; omega) (by omega) ?_; intro v' w5 hown5 hgrow5 hat5)
      have hgrow5 : (w3.alloc (.cells #[.float .f32 y, .complex .f32 re im] 48)).grownBy w5 u4.ownBlock := hgrow5
      have hne5 : Hid (∀ q, v'.ownBlock = some q → g ≠ q) := Lib.hid fun q hq => by
        rcases hat5 q hq with h | h
        · exact hne.out q h
        · have : w3.heap.size + 1 ≤ q := by simpa using h
          omega
      have hw5 := hgrow5.size
      simp only [World.size_alloc] at hw5
      have ho5 : Only (fun j => some j = u4.ownBlock) (w3.alloc (.cells #[.float .f32 y, .complex .f32 re im] 48)) w5 := Only.of_grown hgrow5
      have hc5 : Hid (Cur w.heap.size w5 g a n cap) := Lib.hid ((HC3.out.alloc hglt _).keep ho5 (fun hs => hne.out g hs.symm rfl) (fun k hs => HR.out k hs.symm))
      have hb5 : Hid (Below w.heap.size w w5) := Lib.hid (Below.grown (HB3.out.alloc (by have := HB3.out.size; omega) _) hgrow5 (by have := HB3.out.size; simp; omega) (fun k hk => HR.out k hk))
      have hpl5 : Hid (plL (l ++ [(y, re, im)])) := Lib.hid (by
        intro c hc
        rcases List.mem_append.1 hc with h | h
        · exact hpl.out c h
        · rw [List.mem_singleton.1 h]; exact HP.out)
      clear hat5 hgrow5 ho5
      go_roundw
      case rel => exact ⟨k - 1, l ++ [(y, re, im)], by have := HL.out; simp; omega, by congr 1; omega, oc_snoc hown5, hpl5, hne5, hc5, hb5⟩
      case measure => simp [intOf]; omega
    · have hk0 : k = 0 := by omega
      subst hk0
      go_wp2
      go_ret
      exact ⟨_, l, rfl, hown, hpl.out, by have := HL.out; omega, by have := HL.out; omega, hbe.out⟩
end Go.Proofs.Ytbjllfnjecggfaa
