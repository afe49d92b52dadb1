/- Plain laws: the text of thousandths, and what it is read as. No program in sight. -/
import Derived.Test.YtpdpkgpjgockaaaDoorPa
import Derived.Lib.Bytealg
namespace Go.Proofs.YtpdpkgpjgockaaaDoor
open Go.Lib

/-- three digits -/
def pad3 (m : Nat) : List UInt8 := [UInt8.ofNat (48 + m / 100), UInt8.ofNat (48 + m / 10 % 10), UInt8.ofNat (48 + m % 10)]
def tens (n : Nat) : List UInt8 := decDigits (n / 1000) ++ 46 :: pad3 (n % 1000)
/-- what FormatFixed answers -/
def ffF (n : Int) : List UInt8 := if -1000000000 ≤ n ∧ n ≤ 1000000000 then (if n < 0 then 45 :: tens n.natAbs else tens n.natAbs) else []

theorem pad_one {m : Nat} (h : m < 10) : 48 :: 48 :: decDigits m = pad3 m := by
  rw [dec_small h]; unfold pad3
  rw [show m / 100 = 0 by omega, show m / 10 % 10 = 0 by omega, show m % 10 = m by omega]; rfl
theorem pad_two {m : Nat} (h0 : ¬ m < 10) (h : m < 100) : 48 :: decDigits m = pad3 m := by
  rw [dec_big h0, dec_small (show m / 10 < 10 by omega)]; unfold pad3
  rw [show m / 100 = 0 by omega, show m / 10 % 10 = m / 10 by omega]; rfl
theorem pad_three {m : Nat} (h0 : ¬ m < 100) (h : m < 1000) : decDigits m = pad3 m := by
  rw [dec_big (by omega), dec_big (show ¬ m / 10 < 10 by omega), dec_small (show m / 10 / 10 < 10 by omega)]; unfold pad3
  rw [show m / 10 / 10 = m / 100 by omega]; rfl
theorem len_one {m : Nat} (h : m < 10) : (decDigits m).length = 1 := by rw [dec_small h]; rfl
theorem len_two {m : Nat} (h0 : ¬ m < 10) (h : m < 100) : (decDigits m).length = 2 := by rw [dec_big h0, dec_small (show m / 10 < 10 by omega)]; rfl
theorem len_three {m : Nat} (h0 : ¬ m < 100) (h : m < 1000) : (decDigits m).length = 3 := by rw [pad_three h0 h]; rfl
/-- the reference's tail -/
theorem tail_pad {m : Nat} (h : m < 1000) : (decDigits (1000 + m)).drop 1 = pad3 m := by
  rw [dec_big (by omega), dec_big (show ¬ (1000 + m) / 10 < 10 by omega), dec_big (show ¬ (1000 + m) / 10 / 10 < 10 by omega), dec_small (show (1000 + m) / 10 / 10 / 10 < 10 by omega)]
  unfold pad3
  rw [show (1000 + m) / 10 / 10 % 10 = m / 100 by omega, show (1000 + m) / 10 % 10 = m / 10 % 10 by omega, show (1000 + m) % 10 = m % 10 by omega]; rfl

theorem pad_dig (m : Nat) (h : m < 1000) : allDig (pad3 m) = true := by
  unfold pad3 allDig
  simp only [List.all_cons, List.all_nil, dig_is _ (show m / 100 < 10 by omega), dig_is _ (show m / 10 % 10 < 10 by omega), dig_is _ (show m % 10 < 10 by omega)]; rfl
theorem dval_append (a b : List UInt8) : dval (a ++ b) = dval a * 10 ^ b.length + dval b := by
  have key : ∀ (b : List UInt8) (k : Nat), b.foldl (fun n c => n * 10 + (c.toNat - 48)) k = k * 10 ^ b.length + b.foldl (fun n c => n * 10 + (c.toNat - 48)) 0 := by
    intro b
    induction b with
    | nil => intro k; simp
    | cons c b ih =>
      intro k
      rw [List.foldl_cons, List.foldl_cons, ih, ih (0 * 10 + (c.toNat - 48)), List.length_cons, Nat.pow_succ, Nat.zero_mul, Nat.zero_add, Nat.add_mul, Nat.mul_comm (10 ^ b.length) 10, ← Nat.mul_assoc, Nat.add_assoc]
  unfold dval
  rw [List.foldl_append, key b]
theorem dval_pad (m : Nat) (h : m < 1000) : dval (pad3 m) = m := by
  show dval (([] ++ [UInt8.ofNat (48 + m / 100)]) ++ [UInt8.ofNat (48 + m / 10 % 10)] ++ [UInt8.ofNat (48 + m % 10)]) = m
  rw [dval_snoc, dval_snoc, dval_snoc, dig_byte _ (by omega), dig_byte _ (by omega), dig_byte _ (by omega)]
  show ((0 * 10 + _) * 10 + _) * 10 + _ = m
  omega
theorem allDig_append (a b : List UInt8) : allDig (a ++ b) = (allDig a && allDig b) := by unfold allDig; rw [List.all_append]
/-- the digits of a text of thousandths, without the point -/
theorem tens_val (n : Nat) : dval (decDigits (n / 1000) ++ pad3 (n % 1000)) = n ∧ allDig (decDigits (n / 1000) ++ pad3 (n % 1000)) = true := by
  obtain ⟨d1, d2⟩ := dec_dval (n / 1000)
  refine ⟨?_, ?_⟩
  · rw [dval_append, d1, dval_pad _ (Nat.mod_lt _ (by omega))]
    show n / 1000 * 10 ^ 3 + n % 1000 = n
    omega
  · rw [allDig_append, d2, pad_dig _ (Nat.mod_lt _ (by omega))]; rfl

theorem dig_ne {c : UInt8} (h : isDig c = true) : c ≠ 46 ∧ c ≠ 45 := by
  unfold isDig at h
  rw [decide_eq_true_eq] at h
  refine ⟨?_, ?_⟩ <;> (intro e; subst e; revert h; decide)
theorem index_dig (a b : List UInt8) (h : allDig a = true) : indexByte (a ++ 46 :: b) 46 = a.length := by
  induction a with
  | nil => simp [indexByte]
  | cons c a ih =>
    have hc : isDig c = true ∧ allDig a = true := by
      unfold allDig at h ⊢; rw [List.all_cons, Bool.and_eq_true] at h; exact h
    have hne : (c == 46) = false := beq_eq_false_iff_ne.2 (dig_ne hc.1).1
    rw [List.cons_append, indexByte, hne, ih hc.2]
    simp <;> omega
/-- where the point stands, seen from the list -/
theorem index_split {l : List UInt8} {i : Nat} (h : indexByte l 46 = (i : Int)) : ∃ a b, l = a ++ 46 :: b ∧ a.length = i := by
  induction l generalizing i with
  | nil => (simp [indexByte] at h) <;> omega
  | cons c l ih =>
    rw [indexByte] at h
    by_cases hc : (c == 46) = true
    · rw [if_pos hc] at h
      have : c = 46 := by simpa using hc
      exact ⟨[], l, by rw [this]; rfl, by simp; omega⟩
    · rw [if_neg hc] at h
      by_cases h1 : (indexByte l 46 == -1) = true
      · rw [if_pos h1] at h; omega
      · rw [if_neg h1] at h
        have hg : indexByte l 46 = ((i - 1 : Nat) : Int) := by
          have h2 : indexByte l 46 ≠ -1 := by simpa using h1
          have h3 := indexByte_ge l 46
          omega
        obtain ⟨a, b, e, hl⟩ := ih hg
        refine ⟨c :: a, b, by rw [e]; rfl, ?_⟩
        have h2 : indexByte l 46 ≠ -1 := by simpa using h1
        have h3 := indexByte_ge l 46
        simp; omega

theorem tens_len (n : Nat) : (tens n).length = nDigits (n / 1000) + 4 := by unfold tens pad3; simp [decDigits_length]
theorem ffF_len {n : Int} (h0 : -1000000000 ≤ n) (h1 : n ≤ 1000000000) : 5 ≤ (ffF n).length := by
  unfold ffF
  rw [if_pos ⟨h0, h1⟩]
  have := nDigits_pos (n.natAbs / 1000)
  split <;> simp [tens_len] <;> omega
theorem ffF_ne {n : Int} (h0 : -1000000000 ≤ n) (h1 : n ≤ 1000000000) : ffF n ≠ [] := by
  intro e; have := ffF_len h0 h1; rw [e] at this; simp at this
theorem ffF_out {n : Int} (h : ¬ (-1000000000 ≤ n ∧ n ≤ 1000000000)) : ffF n = [] := by unfold ffF; rw [if_neg h]
theorem ffF_in {n : Int} (h : ffF n ≠ []) : -1000000000 ≤ n ∧ n ≤ 1000000000 := by
  by_cases h1 : -1000000000 ≤ n ∧ n ≤ 1000000000
  · exact h1
  · exact absurd (ffF_out h1) h
theorem nDigits_le7 {u : Nat} (h : u ≤ 1000000) : nDigits u ≤ 7 := by
  by_cases h0 : nDigits u ≤ 7
  · exact h0
  · exfalso
    have key : ∀ (k v : Nat), v < 10 ^ k → 1 ≤ k → nDigits v ≤ k := by
      intro k
      induction k with
      | zero => intro v _ h; omega
      | succ k ih =>
        intro v hv _
        by_cases hs : v < 10
        · rw [nDigits_small hs]; omega
        · rw [nDigits_big hs]
          have hk : 1 ≤ k := by
            rcases Nat.eq_zero_or_pos k with e | e
            · subst e; simp at hv; omega
            · exact e
          have := ih (v / 10) (by rw [Nat.pow_succ] at hv; omega) hk
          omega
    exact h0 (key 7 u (by omega) (by omega))

/-- a text that is the text of a number: what a reader meets -/
theorem ffF_read {n : Int} (h0 : -1000000000 ≤ n) (h1 : n ≤ 1000000000) : ∃ t a b : List UInt8, (if n < 0 then ffF n = 45 :: t else ffF n = t) ∧ t = a ++ 46 :: b ∧ allDig a = true ∧ allDig b = true ∧ 1 ≤ a.length ∧ a.length ≤ 7 ∧ b.length = 3 ∧ dval (a ++ b) = n.natAbs := by
  refine ⟨tens n.natAbs, decDigits (n.natAbs / 1000), pad3 (n.natAbs % 1000), ?_, rfl, (dec_dval _).2, pad_dig _ (Nat.mod_lt _ (by omega)), by rw [decDigits_length]; exact nDigits_pos _, by rw [decDigits_length]; exact nDigits_le7 (by omega), rfl, (tens_val _).1⟩
  have e : ffF n = if n < 0 then 45 :: tens n.natAbs else tens n.natAbs := by unfold ffF; rw [if_pos ⟨h0, h1⟩]
  by_cases hn : n < 0
  · rw [if_pos hn, e, if_pos hn]
  · rw [if_neg hn, e, if_neg hn]
theorem ffF_inj {m n : Int} (h : ffF m = ffF n) (hm : ffF m ≠ []) : m = n := by
  have a := ffF_in hm
  have b := ffF_in (n := n) (by rw [← h]; exact hm)
  obtain ⟨t, c, d, e1, e2, c1, d1, c2, _, d2, v1⟩ := ffF_read a.1 a.2
  obtain ⟨t', c', d', e1', e2', c1', d1', c2', _, d2', v1'⟩ := ffF_read b.1 b.2
  have head : ∀ (x : List UInt8) (y : List UInt8), allDig x = true → 1 ≤ x.length → x ++ 46 :: y = 45 :: (x ++ 46 :: y).tail → False := by
    intro x y hx hl e
    cases x with
    | nil => simp at hl
    | cons z x =>
      have hz : isDig z = true := by unfold allDig at hx; rw [List.all_cons, Bool.and_eq_true] at hx; exact hx.1
      simp at e
      exact (dig_ne hz).2 e
  have tt : t = t' → m.natAbs = n.natAbs := by
    intro e
    have hi : indexByte t 46 = (c.length : Int) := by rw [e2]; exact index_dig c d c1
    have hi' : indexByte t' 46 = (c'.length : Int) := by rw [e2']; exact index_dig c' d' c1'
    have hl : c.length = c'.length := by rw [e] at hi; omega
    have hcc : c = c' ∧ 46 :: d = 46 :: d' := List.append_inj (by rw [← e2, ← e2', e]) hl
    obtain ⟨x, y⟩ := hcc
    cases y
    subst x
    omega
  by_cases hm0 : m < 0 <;> by_cases hn0 : n < 0
  · rw [if_pos hm0] at e1; rw [if_pos hn0] at e1'
    have := tt (by rw [h, e1'] at e1; cases e1; rfl)
    omega
  · rw [if_pos hm0] at e1; rw [if_neg hn0] at e1'
    exfalso
    refine head c' d' c1' c2' ?_
    rw [← e2', ← e1', ← h, e1]; rfl
  · rw [if_neg hm0] at e1; rw [if_pos hn0] at e1'
    exfalso
    refine head c d c1 c2 ?_
    rw [← e2, ← e1, h, e1']; rfl
  · rw [if_neg hm0] at e1; rw [if_neg hn0] at e1'
    have := tt (by rw [← e1, ← e1', h])
    omega
end Go.Proofs.YtpdpkgpjgockaaaDoor
