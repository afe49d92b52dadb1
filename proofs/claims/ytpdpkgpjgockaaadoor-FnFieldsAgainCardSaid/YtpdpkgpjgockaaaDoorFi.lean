/- Walks: FormatInt, both. -/
import Derived.Test.YtpdpkgpjgockaaaDoorEh
import Derived.Test.YtpdpkgpjgockaaaDoorPa
import Derived.Test.YtpdpkgpjgockaaaDoorSt
import Derived.Lib.AppendIntMem
namespace Go.Proofs.YtpdpkgpjgockaaaDoor
open Go.RowKit

/-- the library's table of powers of ten, as the program's text lays it -/
def Tab (w : World) : Prop := Lib.TabIs Tryd.prog w "internal/strconv.uint64pow10" .u64 Lib.pow10Tab
theorem Tab.below {w w' : World} (h : Tab w) (hb : Below w.heap.size w w') : Tab w' := by
  unfold Tab Lib.TabIs World.var? at h ⊢
  cases hg : Tryd.prog.globalNamed "internal/strconv.uint64pow10" with
  | none => simp [hg] at h
  | some g =>
    simp only [hg, Option.bind_some] at h ⊢
    have hlt : g < w.heap.size := by
      rcases Nat.lt_or_ge g w.heap.size with h' | h'
      · exact h'
      · simp [Array.getElem?_eq_none h'] at h
    rw [hb.block g hlt]
    exact h
theorem fiI (n : Int) (h0 : -9223372036854775808 ≤ n) (h1 : n ≤ 9223372036854775807) (w : World) (ht : Tab w) :
    Calls Tryd.prog 16 #[.int .i64 n] w fun e w' => e = .returned (.string ⟨(Lib.itoa n).toArray⟩) ∧ Below w.heap.size w w' := by
  have HT := Lib.hid ht
  clear ht
  go_enter Tryd.func16, Tryd.ntmps16
  go_wp2_with fail
  refine (strconv_Itoa n h0 h1 w HT.out).mono ?_
  rintro e w1 ⟨rfl, k, os, rfl⟩
  go_wp2
  go_ret
  exact ⟨rfl, Lib.below_grow _ _ (Nat.le_refl _) k os⟩

/-- the digits still to be told -/
def digs (v : Nat) : List UInt8 := if v = 0 then [] else Lib.decDigits v
theorem digs_step {v : Nat} (h : v ≠ 0) : digs v = digs (v / 10) ++ [UInt8.ofNat (48 + v % 10)] := by
  unfold digs
  rw [if_neg h]
  by_cases hs : v < 10
  · rw [dec_small hs, if_pos (by omega), show v % 10 = v by omega]; rfl
  · rw [dec_big hs, if_neg (by omega)]
theorem hexD_dig {m : Nat} (h : m < 10) : hexD m = UInt8.ofNat (48 + m) := by unfold hexD; rw [if_pos h]
theorem conv1 (w : World) (c : UInt8) : (convert 22 9 (.slice (some ⟨w.heap.size, 0, none⟩) 1 1)).run Tryd.prog (w.alloc (.cells #[.int .u8 c.toNat] 5)) = .ok (.string ⟨#[c]⟩) (w.alloc (.cells #[.int .u8 c.toNat] 5)) := by
  have h := run_convert_bytes_arg (P := Tryd.prog) (w.alloc (.cells #[.int .u8 c.toNat] 5)) 22 5 Tryd.underlying22 Tryd.underlying5 w.heap.size 0 1 1 [(c.toNat : Int)] rfl (fun i hi => by
    obtain rfl : i = 0 := by omega
    simp) 9 Tryd.underlying9
  rw [h]
  have e : strOfNums [(c.toNat : Int)] = ⟨#[c]⟩ := nums_bytes [c]
  rw [e]
theorem str_of {S : ByteArray} {l : List UInt8} (h : S.data.toList = l) : S = ⟨l.toArray⟩ := by subst h; rfl
set_option maxRecDepth 100000 in
set_option maxHeartbeats 1000000 in
theorem fiS_pos (u : Nat) (hu : 1 ≤ u) (h1 : u ≤ 9223372036854775807) (w : World) :
    Calls Tryd.prog 25 #[.int .i64 u] w fun e w' => e = .returned (.string ⟨(Lib.decDigits u).toArray⟩) ∧ Below w.heap.size w w' := by
  have hneg : decide ((u : Int) < 0) = false := decide_eq_false (by omega)
  have hze : ((u : Int) == 0) = false := by simp; omega
  go_enter Tryd.func25, Tryd.ntmps25
  go_wp2
  go_loopw [0, 4, 5] (fun n s _ wr => ∃ (v : Nat) (S : ByteArray), v ≤ u ∧ n = .int .i64 v ∧ s = .string S ∧ digs v ++ S.data.toList = Lib.decDigits u ∧ Below w.heap.size w wr) (fun n _ _ _ => (intOf n).toNat)
  case atStart => exact ⟨u, ByteArray.empty, Nat.le_refl _, rfl, rfl, by unfold digs; rw [if_neg (by omega)]; simp, Below.refl _ _⟩
  case round =>
    obtain ⟨v, S, hv, rfl, rfl, hd, hbw⟩ := hrel
    have hs20 : S.size ≤ 20 := by
      have h2 := congrArg List.length hd
      rw [List.length_append, Lib.decDigits_length] at h2
      have h3 := Lib.nDigits_le20 u (by omega)
      have h4 : S.data.toList.length = S.size := by simp
      omega
    have HD := Lib.hid hd
    clear hd
    by_cases h0 : v = 0
    · subst h0
      have hS := str_of (S := S) (l := Lib.decDigits u) (by rw [← HD.out]; rfl)
      have HS := Lib.hid hS
      clear hS
      go_wp2
      go_ret
      exact ⟨by rw [HS.out]; rfl, hbw⟩
    · have hz : 0 < v := by omega
      have hst := digs_step h0
      have HST := Lib.hid hst
      clear hst h0
      obtain ⟨m, hm⟩ : ∃ m, v % 10 = m := ⟨_, rfl⟩
      obtain ⟨q, hq⟩ : ∃ q, v / 10 = q := ⟨_, rfl⟩
      have m10 : m < 10 := by omega
      have qv : q < v := by omega
      have em : (v : Int) % 10 = (m : Int) := by omega
      have eq : (v : Int) / 10 = (q : Int) := by omega
      rw [hm, hq] at HST
      clear hm hq
      have hf := hexD_dig m10
      have HF := Lib.hid hf
      clear hf
      have hcv := conv1 wr (hexD m)
      go_wp2_with (go_at_call 48; refine (fig_z _ _ (by omega) (by omega)).mono ?_; rintro e w' ⟨rfl, rfl⟩)
      go_roundw
      case rel => exact ⟨q, _, by omega, rfl, rfl, by rw [← HD.out, HST.out, ← HF.out]; simp, hbw.alloc hbw.size _⟩
      case measure => simp [intOf]; omega
set_option maxRecDepth 100000 in
set_option maxHeartbeats 1000000 in
theorem fiS_neg (u : Nat) (z : Int) (hu : 1 ≤ u) (h1 : u ≤ 9223372036854775808) (hz : z = -(u : Int)) (w : World) :
    Calls Tryd.prog 25 #[.int .i64 z] w fun e w' => e = .returned (.string ⟨(45 :: Lib.decDigits u).toArray⟩) ∧ Below w.heap.size w w' := by
  have hzu : z < 0 := by omega
  have hzl : -9223372036854775808 ≤ z := by omega
  have HZ := Lib.hid hz
  have hneg : decide (z < 0) = true := decide_eq_true hzu
  have hze : (z == 0) = false := by simp; omega
  clear hz
  go_enter Tryd.func25, Tryd.ntmps25
  go_wp2
  go_loopw [0, 4, 5] (fun n s _ wr => ∃ (x : Int) (v : Nat) (S : ByteArray), x = -(v : Int) ∧ v ≤ u ∧ n = .int .i64 x ∧ s = .string S ∧ digs v ++ S.data.toList = Lib.decDigits u ∧ Below w.heap.size w wr) (fun n _ _ _ => (-(intOf n)).toNat)
  case atStart => exact ⟨z, u, ByteArray.empty, HZ.out, Nat.le_refl _, rfl, rfl, by unfold digs; rw [if_neg (by omega)]; simp, Below.refl _ _⟩
  case round =>
    obtain ⟨x, v, S, hx, hv, rfl, rfl, hd, hbw⟩ := hrel
    have hs20 : S.size ≤ 20 := by
      have h2 := congrArg List.length hd
      rw [List.length_append, Lib.decDigits_length] at h2
      have h3 := Lib.nDigits_le20 u (by omega)
      have h4 : S.data.toList.length = S.size := by simp
      omega
    have HD := Lib.hid hd
    clear hd
    by_cases h0 : v = 0
    · subst h0
      obtain rfl : x = 0 := by omega
      clear hx
      have hS := str_of (S := S) (l := Lib.decDigits u) (by rw [← HD.out]; rfl)
      have HS := Lib.hid hS
      clear hS
      go_wp2
      go_ret
      exact ⟨by rw [HS.out]; rfl, hbw⟩
    · have hx0 : x < 0 := by omega
      have hxl : -9223372036854775808 ≤ x := by omega
      have hst := digs_step h0
      have HST := Lib.hid hst
      clear hst
      obtain ⟨m, hm⟩ : ∃ m, v % 10 = m := ⟨_, rfl⟩
      obtain ⟨q, hq⟩ : ∃ q, v / 10 = q := ⟨_, rfl⟩
      have m10 : m < 10 := by omega
      have qv : q < v := by omega
      have em : x.tmod 10 = -(m : Int) := by rw [hx, Int.neg_tmod, Int.tmod_eq_emod_of_nonneg (by omega)]; omega
      have eq : x.tdiv 10 = -(q : Int) := by rw [hx, Int.neg_tdiv, Int.tdiv_eq_ediv_of_nonneg (by omega)]; omega
      rw [hm, hq] at HST
      have HX := Lib.hid hx
      clear hm hq hx h0
      have hf := hexD_dig m10
      have HF := Lib.hid hf
      clear hf
      have hcv := conv1 wr (hexD m)
      have lo : IntKind.i64.wrap (-(q : Int)) = -(q : Int) := by rw [IntKind.wrap_i64]; omega
      have hq0 : -9223372036854775808 ≤ -(q : Int) := by omega
      by_cases hm0 : m = 0
      · subst hm0
        go_wp2_with (go_at_call 48; refine (fig_z _ _ (by omega) (by omega)).mono ?_; rintro e w' ⟨rfl, rfl⟩)
        go_roundw
        case rel => exact ⟨_, q, _, rfl, by omega, rfl, rfl, by rw [← HD.out, HST.out, ← HF.out]; simp, hbw.alloc hbw.size _⟩
        case measure => have := HX.out; simp [intOf]; omega
      · have hmm : -(m : Int) < 0 := by omega
        go_wp2_with (go_at_call 48; refine (fig_z _ _ (by omega) (by omega)).mono ?_; rintro e w' ⟨rfl, rfl⟩)
        go_roundw
        case rel => exact ⟨_, q, _, rfl, by omega, rfl, rfl, by rw [← HD.out, HST.out, ← HF.out]; simp, hbw.alloc hbw.size _⟩
        case measure => have := HX.out; simp [intOf]; omega
end Go.Proofs.YtpdpkgpjgockaaaDoor
