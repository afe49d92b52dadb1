/- Plain laws: what is encoded in hexadecimal is decoded again. And the draw of such a text. -/
import Derived.Test.YtpdpkgpjgockaaaDoorHx
import Derived.Test.YtpdpkgpjgockaaaDoorVf
import Derived.Test.YtpdpkgpjgockaaaDoorBg
namespace Go.Proofs.YtpdpkgpjgockaaaDoor
open Go.RowKit

theorem hv_fin : ∀ x : Fin 16, hexV ((hexD x.val).toNat : Int) = (x.val : Int) := by decide +kernel
theorem hv_hexD (x : Nat) (h : x < 16) : hexV ((hexD x).toNat : Int) = (x : Int) := hv_fin ⟨x, h⟩
theorem ehF_at (l : List UInt8) : ∀ i, i < l.length → (ehF l).getD (2 * i) 0 = hexD ((l.getD i 0).toNat / 16) ∧ (ehF l).getD (2 * i + 1) 0 = hexD ((l.getD i 0).toNat % 16) := by
  induction l with
  | nil => intro i h; simp at h
  | cons c l ih =>
    intro i h
    cases i with
    | zero => exact ⟨rfl, rfl⟩
    | succ i =>
      have := ih i (by simpa using h)
      have e : ehF (c :: l) = hexD (c.toNat / 16) :: hexD (c.toNat % 16) :: ehF l := rfl
      rw [e, show 2 * (i + 1) = 2 * i + 1 + 1 by omega]
      exact this
theorem hv_pair (l : List UInt8) (i : Nat) (h : i < l.length) : hv (ehF l) (2 * i) = ((l.getD i 0).toNat / 16 : Nat) ∧ hv (ehF l) (2 * i + 1) = ((l.getD i 0).toNat % 16 : Nat) := by
  obtain ⟨a, b⟩ := ehF_at l i h
  have hb := (l.getD i 0).toNat_lt
  unfold hv
  rw [a, b]
  exact ⟨hv_hexD _ (by omega), hv_hexD _ (by omega)⟩
theorem dpair_eh (l : List UInt8) (i : Nat) (h : i < l.length) : dpair (ehF l) i = l.getD i 0 := by
  obtain ⟨a, b⟩ := hv_pair l i h
  unfold dpair
  rw [a, b]
  have e : (16 * (((l.getD i 0).toNat / 16 : Nat) : Int) + (((l.getD i 0).toNat % 16 : Nat) : Int)).toNat = (l.getD i 0).toNat := by omega
  rw [e]; simp
theorem dout_eh (l : List UInt8) : dout (ehF l) l.length = l := by
  unfold dout
  apply List.ext_getElem
  · simp
  · intro i h1 h2
    simp only [List.getElem_map, List.getElem_range]
    rw [dpair_eh l i (by simpa using h1)]
    simp [List.getD, h2]
theorem dok_eh (l : List UInt8) : dok (ehF l) l.length = true := by
  unfold dok
  rw [List.all_eq_true]
  intro i hi
  obtain ⟨a, b⟩ := hv_pair l i (List.mem_range.1 hi)
  unfold dgood
  rw [a, b, decide_eq_true (by omega), decide_eq_true (by omega)]; rfl
set_option maxRecDepth 100000 in
set_option maxHeartbeats 1000000 in
theorem drawHex (a : Option Addr) (n cap : Nat) (w : World) (hB : By w.heap.size w a n) (hn : n ≤ 1048576) :
    Calls Tryd.prog 14 #[.slice a n cap] w (TxPost w 20001) := by
  go_enter Tryd.func14, Tryd.ntmps14
  go_wp2_with fail
  refine (new_any w.heap.size a n cap w hB hn (Nat.le_refl _)).mono ?_
  rintro e w1 ⟨g, rfl, hc, hg1, hg2, hb1⟩
  have HC := Lib.hid hc
  clear hc
  go_wp2_with fail
  refine (once_any _ g a n cap _ _ HC.out (by omega) (by omega)).mono ?_
  rintro e w2 ⟨b, rfl, hc, ho⟩
  have HC2 := Lib.hid hc
  have hb2 : Below w.heap.size w w2 := hb1.trans (below_of_only ho hb1.size (fun k hk => by omega))
  clear hc ho HC
  cases b
  · go_wp2_with fail
    refine (below_any _ g a n cap _ _ HC2.out (by omega) (by omega)).mono ?_
    rintro e w3 ⟨x, rfl, x0, x1, hc, ho⟩
    rw [if_neg (by omega)] at x1
    obtain ⟨m, rfl⟩ : ∃ m : Nat, x = m := ⟨x.toNat, by omega⟩
    have HC3 := Lib.hid hc
    have hb3 : Below w.heap.size w w3 := hb2.trans (below_of_only ho hb2.size (fun k hk => by omega))
    clear hc ho HC2
    go_wp2_with fail
    refine (text_any _ g a n cap m _ HC3.out (by omega)).mono ?_
    rintro e w4 ⟨s, rfl, hs, ho⟩
    have hb4 : Below w.heap.size w w4 := hb3.trans (below_of_only ho hb3.size (fun k hk => by omega))
    clear ho
    go_wp2
    go_ret
    exact ⟨s, rfl, by omega, hb4⟩
  · go_wp2_with fail
    refine (below_any _ g a n cap _ _ HC2.out (by omega) (by omega)).mono ?_
    rintro e w3 ⟨x, rfl, x0, x1, hc, ho⟩
    rw [if_neg (by omega)] at x1
    obtain ⟨m, hm⟩ : ∃ m : Nat, 20000 + x = (m : Int) := ⟨(20000 + x).toNat, by omega⟩
    have hb3 : Below w.heap.size w w3 := hb2.trans (below_of_only ho hb2.size (fun k hk => by omega))
    have hm1 : m ≤ 20001 := by omega
    clear hc ho HC2
    go_wp2_with fail
    refine (long_any m 200 _ (by omega)).mono ?_
    rintro e w4 ⟨s, rfl, hs, hb4⟩
    have hs1 : s.size ≤ 20001 := by omega
    clear hs hm
    go_wp2
    go_ret
    exact ⟨s, rfl, hs1, hb3.trans (hb4.mono hb3.size)⟩
end Go.Proofs.YtpdpkgpjgockaaaDoor
