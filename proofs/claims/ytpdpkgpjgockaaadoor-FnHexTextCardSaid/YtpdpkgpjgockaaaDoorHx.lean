/- Walks: DecodeHex, the program's. -/
import Derived.Test.YtpdpkgpjgockaaaDoorEj
namespace Go.Proofs.YtpdpkgpjgockaaaDoor
open Go.RowKit

def hv (l : List UInt8) (i : Nat) : Int := hexV ((l.getD i 0).toNat : Int)
def dpair (l : List UInt8) (i : Nat) : UInt8 := UInt8.ofNat (16 * hv l (2 * i) + hv l (2 * i + 1)).toNat
def dout (l : List UInt8) (k : Nat) : List UInt8 := (List.range k).map (dpair l)
theorem dout_succ (l : List UInt8) (k : Nat) : dout l (k + 1) = dout l k ++ [dpair l k] := by unfold dout; rw [List.range_succ, List.map_append]; rfl
theorem dout_len (l : List UInt8) (k : Nat) : (dout l k).length = k := by simp [dout]
def dgood (l : List UInt8) (i : Nat) : Bool := decide (0 ≤ hv l (2 * i)) && decide (0 ≤ hv l (2 * i + 1))
def dok (l : List UInt8) (k : Nat) : Bool := (List.range k).all (dgood l)
theorem dok_succ (l : List UInt8) (k : Nat) : dok l (k + 1) = (dok l k && dgood l k) := by unfold dok; rw [List.range_succ, List.all_append]; simp
theorem dok_no {l : List UInt8} {n j : Nat} (h : j < n) (hg : dgood l j = false) : dok l n = false := by
  unfold dok
  rw [List.all_eq_false]
  exact ⟨j, List.mem_range.2 h, by rw [hg]; simp⟩
theorem getD_size (s : ByteArray) (k : Nat) (h : k < s.size) : s.data.toList.getD k 0 = s[k] := by
  simp only [List.getD]
  rw [List.getElem?_eq_getElem (by simpa using h)]; rfl
def deQ (s : ByteArray) : Bool := decide (s.size % 2 = 0) && decide (s.size ≤ 40000) && dok s.data.toList (s.size / 2)
def deT (s : ByteArray) : ByteArray := if deQ s then ⟨(dout s.data.toList (s.size / 2)).toArray⟩ else ByteArray.empty
def EnP (w : World) (t : ByteArray) (q : Bool) (e : Ending) (w' : World) : Prop := e = .returned (.tuple #[.string t, .bool q]) ∧ Below w.heap.size w w'
theorem byte_fin : ∀ x y : Fin 16, UInt8.ofNat (16 * (x.val : Int) + (y.val : Int)).toNat = UInt8.ofNat (16 * x.val + y.val) := by decide +kernel

theorem or_fin : ∀ x y : Fin 16, bits .or .i64 ((x.val : Int) * 16) (y.val : Int) % 256 = ((UInt8.ofNat (16 * (x.val : Int) + (y.val : Int)).toNat).toNat : Int) := by decide +kernel
theorem bits_or (x y : Int) (hx : 0 ≤ x) (hx2 : x < 16) (hy : 0 ≤ y) (hy2 : y < 16) : bits .or .i64 (x * 16) y % 256 = ((UInt8.ofNat (16 * x + y).toNat).toNat : Int) := by
  obtain ⟨a, rfl⟩ : ∃ a : Nat, x = a := ⟨x.toNat, by omega⟩
  obtain ⟨b, rfl⟩ : ∃ b : Nat, y = b := ⟨y.toNat, by omega⟩
  exact or_fin ⟨a, by omega⟩ ⟨b, by omega⟩
theorem valI_to (z x : Int) (w : World) (h : Hid (hexV z = x)) (h0 : 0 ≤ z) (h1 : z < 256) : Calls Tryd.prog 43 #[.int .u8 z] w fun e w' => e = .returned (.int .i64 x) ∧ w' = w := by
  have := valI_any z w h0 h1
  rwa [h.out] at this
set_option maxRecDepth 100000 in
set_option maxHeartbeats 1000000 in
theorem decI_yes (s t : ByteArray) (q : Bool) (w : World) (h2 : s.size % 2 = 0) (hs : s.size ≤ 40000) (hq : dok s.data.toList (s.size / 2) = q) (ht : (if q then ByteArray.mk (dout s.data.toList (s.size / 2)).toArray else ByteArray.empty) = t) :
    Calls Tryd.prog 17 #[.string s] w (EnP w t q) := by
  obtain ⟨n, hn⟩ : ∃ n, s.size / 2 = n := ⟨_, rfl⟩
  rw [hn] at hq ht
  have hsz : s.size = 2 * n := by omega
  have hn1 : 2 * n ≤ s.size := by omega
  have hn2 : s.size ≤ 2 * n := by omega
  have HQ := Lib.hid hq
  have HT := Lib.hid ht
  have e1 : ((s.size : Int) % 2 != 0) = false := by simp; omega
  have e2 : (s.size : Int) / 2 ≤ 20000 := by omega
  clear hq ht hn hsz h2
  go_enter Tryd.func17, Tryd.ntmps17
  go_wp2
  go_loopw [6] (fun i wr => ∃ j : Nat, j ≤ n ∧ i = .int .i64 (2 * (j : Int)) ∧ dok s.data.toList j = true ∧ Lib.IsBuilder TB 5 w.heap.size w.heap.size (Lib.byteCells (dout s.data.toList j)) wr ∧ Below w.heap.size w wr) (fun i _ => s.size - (intOf i).toNat)
  case atStart => exact ⟨0, Nat.zero_le _, rfl, rfl, Lib.fresh_isBuilder TB 5 w, (Below.refl _ _).alloc (Nat.le_refl _) _⟩
  case round =>
    obtain ⟨j, hj, rfl, hok, hb, hbw⟩ := hrel
    have HB := Lib.hid hb
    have HK := Lib.hid hok
    clear hb hok
    by_cases hlt : j < n
    · have c1 : 2 * j < s.size := by omega
      have c2 : 2 * j + 1 < s.size := by omega
      have HG : Hid (dgood s.data.toList j = (decide (0 ≤ hexV (s[2 * j].toNat : Int)) && decide (0 ≤ hexV (s[2 * j + 1].toNat : Int)))) := by
        refine Lib.hid ?_
        unfold dgood hv; rw [getD_size s _ c1, getD_size s _ c2]
      have HP : Hid (dpair s.data.toList j = UInt8.ofNat (16 * hexV (s[2 * j].toNat : Int) + hexV (s[2 * j + 1].toNat : Int)).toNat) := by
        refine Lib.hid ?_
        unfold dpair hv; rw [getD_size s _ c1, getD_size s _ c2]
      have z4 : 0 ≤ 2 * (j : Int) := by omega
      have z5 : 0 ≤ 2 * (j : Int) + 1 := by omega
      have i4 : 2 * (j : Int) < (s.size : Int) := by omega
      have i5 : 2 * (j : Int) + 1 < (s.size : Int) := by omega
      have t5 : (2 * (j : Int)).toNat = 2 * j := by omega
      have t6 : (2 * (j : Int) + 1).toNat = 2 * j + 1 := by omega
      have w6 : IntKind.i64.wrap (2 * (j : Int) + 1) = 2 * (j : Int) + 1 := by rw [IntKind.wrap_i64]; omega
      have b1 : s[2 * j].toNat < 256 := s[2 * j].toNat_lt
      have b2 : s[2 * j + 1].toNat < 256 := s[2 * j + 1].toNat_lt
      have hx := hexV_rng (s[2 * j].toNat : Int)
      have hy := hexV_rng (s[2 * j + 1].toNat : Int)
      obtain ⟨x, ex⟩ : ∃ x, hexV (s[2 * j].toNat : Int) = x := ⟨_, rfl⟩
      obtain ⟨y, ey⟩ : ∃ y, hexV (s[2 * j + 1].toNat : Int) = y := ⟨_, rfl⟩
      rw [ex, ey] at HG HP
      rw [ex] at hx
      rw [ey] at hy
      have X := Lib.hid ex
      have Y := Lib.hid ey
      clear ex ey
      go_wp2
      go_quiet ((first | (go_at_call 43; (with_reducible exact Calls.quiet_of_same (valI_to _ x _ X (by omega) (by omega)))) | (go_at_call 43; (with_reducible exact Calls.quiet_of_same (valI_to _ y _ Y (by omega) (by omega))))))
      by_cases x0 : x < 0
      · have hf : dok s.data.toList n = false := dok_no hlt (by rw [HG.out, decide_eq_false (by omega)]; rfl)
        go_wp2
        go_ret2
        exact ⟨by rw [← HT.out, ← HQ.out, hf]; rfl, below_drewN hbw _⟩
      by_cases y0 : y < 0
      · have hf : dok s.data.toList n = false := dok_no hlt (by rw [HG.out, decide_eq_false (show ¬ 0 ≤ y by omega)]; simp)
        go_wp2
        go_ret2
        exact ⟨by rw [← HT.out, ← HQ.out, hf]; rfl, below_drewN hbw _⟩
      have hx0 : 0 ≤ x := by omega
      have hy0 : 0 ≤ y := by omega
      clear x0 y0
      have hbit := bits_or x y hx0 (by omega) hy0 (by omega)
      have HBt := Lib.hid hbit
      have hD : dpair s.data.toList j = UInt8.ofNat (16 * x + y).toNat := HP.out
      have hL : (Lib.byteCells (dout s.data.toList j)).length ≤ 40000 := by rw [Lib.byteCells_length, dout_len]; omega
      have HD := Lib.hid hD
      have hds := Lib.hid (dout_succ s.data.toList j)
      have hks := Lib.hid (dok_succ s.data.toList j)
      have hkk : dok s.data.toList (j + 1) = true := by rw [hks.out, HK.out, HG.out, decide_eq_true hx0, decide_eq_true hy0]; rfl
      have HKK := Lib.hid hkk
      have HLL := Lib.hid hL
      clear hbit hD hkk hL
      go_wp2_with fail
      rw [HBt.out]
      refine (wbyte w.heap.size w.heap.size _ _ (wr.drewN _) (show Lib.IsBuilder TB 5 w.heap.size w.heap.size _ (wr.drewN _) from HB.out) (by have := HLL.out; omega) hbw.size).mono ?_
      rintro e w1 ⟨rfl, hb1, hbw1⟩
      have HB1 := Lib.hid hb1
      have HW1 := Lib.hid ((below_drewN hbw _).trans hbw1)
      clear HB hb1 hbw1
      go_wp2_with fail
      go_roundw
      case rel => exact ⟨j + 1, by omega, by go_num, HKK.out, by rw [hds.out, HD.out]; refine .inr ?_; have := HB1.out; simpa [Lib.byteCells] using this, HW1.out⟩
      case measure => simp [intOf]; omega
    · have hje : j = n := by omega
      subst hje
      have i4 : (s.size : Int) ≤ 2 * (j : Int) := by omega
      have hqt : q = true := by rw [← HQ.out]; exact HK.out
      subst hqt
      have hT : ByteArray.mk (dout s.data.toList j).toArray = t := HT.out
      have HT2 := Lib.hid hT
      clear hT
      go_wp2_with fail
      refine (bstring w.heap.size w.heap.size _ wr HB.out hbw.size).mono ?_
      rintro e w1 ⟨rfl, hb1⟩
      rw [HT2.out]
      go_wp2
      go_ret2
      exact ⟨rfl, hbw.trans hb1⟩
end Go.Proofs.YtpdpkgpjgockaaaDoor
