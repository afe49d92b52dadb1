/- Walk: the law FnExactSplitFields returns true. -/
import Derived.Test.YtpdpkgpjgockaaaDoorYd
namespace Go.Proofs.YtpdpkgpjgockaaaDoor
open Go.RowKit Go.Proofs.YtpdpkgpjgockaaaDoorW.PrintWords Go.Proofs.YtpdpkgpjgockaaaDoorW.PrintLast Go.Proofs.YtpdpkgpjgockaaaDoorW.PrintMore Go.Proofs.YtpdpkgpjgockaaaDoor.PFnExactSplitFields

/-- the library's variable holds some number -/
def MaxLen (w : World) : Prop := ∃ m, w.cell? ⟨0, 0, none⟩ = some (.int .i64 m)
theorem MaxLen.below {w w' : World} (h : MaxLen w) (hb : Below w.heap.size w w') : MaxLen w' := by
  obtain ⟨m, hm⟩ := h
  exact ⟨m, (hb.cell (p := ⟨0, 0, none⟩) (World.block_lt_of_cell? _ _ hm)).trans hm⟩
theorem sfI' (s : ByteArray) (x : List ByteArray) (q : Bool) (hr : sfF s = (x, q)) (w : World) (hm : MaxLen w) : Calls Tryd.prog 22 #[.string s] w (SfPost w x q) := by
  obtain ⟨m, hm⟩ := hm
  exact sfI s x q hr m w hm
theorem sfS (s : ByteArray) (x : List ByteArray) (q : Bool) (hr : sfF s = (x, q)) (w : World) : Calls Tryd.prog 23 #[.string s] w fun e w' => ∃ r, e = .returned (.tuple #[r, .bool q]) ∧ Kd.R Kd.string 9 w' w.heap.size (fun _ => True) r x ∧ Below w.heap.size w w' := by
  obtain ⟨k, hk⟩ := sS_f s
  rw [hr] at hk
  exact spec_SplitFields.calls k s x q w hk
theorem sf_len {s : ByteArray} {x : List ByteArray} {q : Bool} (h : sfF s = (x, q)) : x.length ≤ 24 := by
  unfold sfF at h
  split at h
  · rename_i h3
    cases h
    exact h3.2.2
  · cases h; simp
/-- a row of texts that is read -/
def Rt (w : World) (v : Value) (xs : List ByteArray) : Prop := ∃ A c, v = .slice A xs.length c ∧ xs.length ≤ c ∧ Kd.C Kd.string w A xs.length xs
theorem Rt.below {w w' : World} {v : Value} {xs : List ByteArray} (h : Rt w v xs) (hb : Below w.heap.size w w') : Rt w' v xs := by
  obtain ⟨A, c, h1, h2, h3⟩ := h
  exact ⟨A, c, h1, h2, Kd.C_below h3 hb⟩
theorem Rt.of {w : World} {B : Nat} {ok : Nat → Prop} {v : Value} {xs : List ByteArray} (h : Kd.R Kd.string 9 w B ok v xs) : Rt w v xs := Kd.R_reads h
theorem eq_call (u v : Value) (xs : List ByteArray) (w : World) (hu : Rt w u xs) (hv : Rt w v xs) (hx : xs.length ≤ 1048576) : Calls Tryd.prog 31 #[u, v] w fun e w' => e = .returned (.bool true) ∧ Below w.heap.size w w' := by
  obtain ⟨A, c, rfl, h1, h2⟩ := hu
  obtain ⟨A', c', rfl, h1', h2'⟩ := hv
  exact (laws_eqStringS.calls (xs.length + 1) A c xs A' c' xs true w h2 h1 h2' h1' (eq_f xs hx)).mono fun e w' ⟨he, hd⟩ => ⟨he, hd.below⟩
theorem held_call (u : Value) (ys : List ByteArray) (w : World) (hu : Rt w u ys) (hn : ys.length ≤ 24) (hm : Mk ys ys.length) : Calls Tryd.prog 33 #[u, .int .i64 1] w fun e w' => e = .returned (.int .i64 ((ys.length + 1 : Nat) : Int)) ∧ Below w.heap.size w w' := by
  obtain ⟨A, c, rfl, h1, h2⟩ := hu
  exact laws_heldStringS.calls 100 A c ys 1 _ w h2 h1 (held_f ys ys.length rfl hn hm)
theorem mark_call (u : Value) (xs : List ByteArray) (w0 w : World) (hB : Below w0.heap.size w0 w) (hu : Os w w0.heap.size u xs) (hn : xs.length ≤ 24) : Calls Tryd.prog 32 #[u, .int .i64 1] w fun e w' => ∃ ys : List ByteArray, e = .returned (.int .i64 ((xs.length + 1 : Nat) : Int)) ∧ ys.length = xs.length ∧ Mk ys ys.length ∧ Rt w' u ys ∧ Below w0.heap.size w0 w' := by
  obtain ⟨ys, h1, h2, h3⟩ := mark_f xs hn
  refine (laws_markStringS.calls 100 (fun _ => True) u xs 1 _ ys w0 w hB (r_of hu) h3).mono ?_
  rintro e w' ⟨he, hr, hb, _⟩
  exact ⟨ys, he, h1, by rw [h1]; exact h2, Rt.of hr, hb⟩
set_option maxRecDepth 100000 in
set_option maxHeartbeats 1000000 in
theorem lawSf (w : World) (hm : MaxLen w) (s : ByteArray) (_hs : s.size ≤ maxLen) : Calls Tryd.prog 11 #[.string s] w fun e w' => e = .returned (.bool true) ∧ Below w.heap.size w w' := by
  clear _hs
  have HM := Lib.hid hm
  clear hm
  by_cases hbig : 1048576 < s.size
  · go_enter Tryd.func11, Tryd.ntmps11
    go_wp2
    go_ret
    exact ⟨rfl, Below.refl _ _⟩
  have hbig' : decide (1048576 < (s.size : Int)) = false := decide_eq_false (by omega)
  obtain ⟨⟨x, q⟩, hr⟩ : ∃ y, sfF s = y := ⟨_, rfl⟩
  have hl := sf_len hr
  have HR := Lib.hid hr
  clear hbig hr
  go_enter Tryd.func11, Tryd.ntmps11
  go_wp2_with fail
  refine (sfS s x q HR.out w).mono ?_
  rintro e w1 ⟨r1, rfl, h1, hb1⟩
  have S1 := Lib.hid (Rt.of h1)
  have B1 := Lib.hid hb1
  have M1 := Lib.hid (HM.out.below hb1)
  clear h1 hb1 HM
  go_wp2_with fail
  refine (sfI' s x q HR.out w1 M1.out).mono ?_
  rintro e w2 ⟨r2, rfl, h2, hb⟩
  have S2 := Lib.hid (S1.out.below hb)
  have B2 := Lib.hid hb
  have G2 := Lib.hid (r_of h2)
  have O2 := Lib.hid h2
  clear hb h2
  go_wp2_with fail
  refine (eq_call r2 r1 x _ (Rt.of G2.out) S2.out (by omega)).mono ?_
  rintro e w3 ⟨rfl, hb⟩
  have B3 := Lib.hid (B2.out.trans (hb.mono B2.out.size))
  have O3 : Hid (Os w3 w1.heap.size r2 x) := Lib.hid (own_below O2.out hb)
  clear hb B2 G2 O2 S2
  have hqq : (q != q) = false := by simp
  go_wp2_with fail
  refine (mark_call r2 x w1 _ B3.out O3.out hl).mono ?_
  rintro e w4 ⟨ys, rfl, hyl, hmk, hy, hb⟩
  have B4 := Lib.hid hb
  have S4 := Lib.hid (S1.out.below hb)
  have M4 := Lib.hid (M1.out.below hb)
  have Y4 := Lib.hid hy
  have MK := Lib.hid hmk
  clear hb hy hmk S1 M1 B3 O3
  go_wp2_with fail
  refine (held_call r2 ys _ Y4.out (by omega) MK.out).mono ?_
  rintro e w5 ⟨rfl, hb⟩
  have B5 := Lib.hid (B4.out.trans (hb.mono B4.out.size))
  have S5 := Lib.hid (S4.out.below hb)
  have M5 := Lib.hid (M4.out.below hb)
  have Y5 := Lib.hid (Y4.out.below hb)
  clear hb B4 S4 M4 Y4
  rw [hyl]
  go_wp2_with fail
  refine (sfI' s x q HR.out w5 M5.out).mono ?_
  rintro e w6 ⟨r6, rfl, h6, hb⟩
  have B6 := Lib.hid (B5.out.trans (hb.mono B5.out.size))
  have S6 := Lib.hid (S5.out.below hb)
  have Y6 := Lib.hid (Y5.out.below hb)
  have G6 := Lib.hid (Rt.of (r_of h6))
  clear hb h6 B5 S5 M5 Y5
  go_wp2_with fail
  refine (eq_call r6 r1 x _ G6.out S6.out (by omega)).mono ?_
  rintro e w7 ⟨rfl, hb⟩
  have B7 := Lib.hid (B6.out.trans (hb.mono B6.out.size))
  have Y7 := Lib.hid (Y6.out.below hb)
  clear hb B6 S6 Y6 G6
  go_wp2_with fail
  refine (held_call r2 ys _ Y7.out (by omega) MK.out).mono ?_
  rintro e w8 ⟨rfl, hb⟩
  have hb8 := B1.out.trans ((B7.out.trans (hb.mono B7.out.size)).mono B1.out.size)
  clear hb B7 Y7
  rw [hyl]
  go_wp2
  go_ret
  exact ⟨rfl, hb8⟩
end Go.Proofs.YtpdpkgpjgockaaaDoor
