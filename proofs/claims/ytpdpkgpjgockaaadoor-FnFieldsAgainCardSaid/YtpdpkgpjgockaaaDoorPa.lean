/- Plain laws: the decimal numeral, read again. No program in sight. -/
import Derived.Lib.ItoaLen
namespace Go.Proofs.YtpdpkgpjgockaaaDoor
open Go.Lib

def isDig (c : UInt8) : Bool := decide (48 ≤ c.toNat ∧ c.toNat ≤ 57)
def allDig (l : List UInt8) : Bool := l.all isDig
/-- the number that digits tell -/
def dval (l : List UInt8) : Nat := l.foldl (fun n c => n * 10 + (c.toNat - 48)) 0
theorem dval_snoc (l : List UInt8) (c : UInt8) : dval (l ++ [c]) = dval l * 10 + (c.toNat - 48) := by
  unfold dval; rw [List.foldl_append]; rfl
theorem allDig_snoc (l : List UInt8) (c : UInt8) : allDig (l ++ [c]) = (allDig l && isDig c) := by
  unfold allDig; rw [List.all_append]; simp
theorem dig_byte (d : Nat) (h : d < 10) : (UInt8.ofNat (48 + d)).toNat = 48 + d := by
  simp [UInt8.toNat_ofNat]; omega
theorem dig_is (d : Nat) (h : d < 10) : isDig (UInt8.ofNat (48 + d)) = true := by
  unfold isDig; rw [dig_byte d h]; simp; omega
theorem dec_small {u : Nat} (h : u < 10) : decDigits u = [UInt8.ofNat (48 + u)] := by rw [decDigits, dif_pos h]
theorem dec_big {u : Nat} (h : ¬ u < 10) : decDigits u = decDigits (u / 10) ++ [UInt8.ofNat (48 + u % 10)] := by rw [decDigits, dif_neg h]
theorem dec_dval (u : Nat) : dval (decDigits u) = u ∧ allDig (decDigits u) = true := by
  induction u using Nat.strongRecOn with
  | _ u ih =>
    by_cases h : u < 10
    · rw [dec_small h]
      refine ⟨?_, ?_⟩
      · show dval ([] ++ [UInt8.ofNat (48 + u)]) = u
        rw [dval_snoc, dig_byte u h]; show 0 * 10 + _ = _; omega
      · show allDig ([] ++ [UInt8.ofNat (48 + u)]) = true
        rw [allDig_snoc, dig_is u h]; rfl
    · rw [dec_big h]
      obtain ⟨h1, h2⟩ := ih (u / 10) (by omega)
      refine ⟨?_, ?_⟩
      · rw [dval_snoc, h1, dig_byte _ (by omega)]; omega
      · rw [allDig_snoc, h2, dig_is _ (by omega)]; rfl
theorem dval_lt (l : List UInt8) (h : allDig l = true) : dval l < 10 ^ l.length := by
  have key : ∀ (l : List UInt8) (k : Nat), allDig l = true → l.foldl (fun n c => n * 10 + (c.toNat - 48)) k < (k + 1) * 10 ^ l.length := by
    intro l
    induction l with
    | nil => intro k _; simp
    | cons c l ih =>
      intro k h
      have hc : isDig c = true ∧ allDig l = true := by
        unfold allDig at h ⊢; rw [List.all_cons, Bool.and_eq_true] at h; exact h
      have h1 : c.toNat ≤ 57 := by have := hc.1; unfold isDig at this; rw [decide_eq_true_eq] at this; exact this.2
      rw [List.foldl_cons, List.length_cons, Nat.pow_succ]
      refine Nat.lt_of_lt_of_le (ih _ hc.2) ?_
      rw [Nat.mul_comm (10 ^ l.length) 10, ← Nat.mul_assoc]
      exact Nat.mul_le_mul_right _ (by omega)
  have := key l 0 h
  rwa [Nat.zero_add, Nat.one_mul] at this
theorem itoa_ge (n : Int) (h : 0 ≤ n) : itoa n = decDigits n.toNat := by unfold itoa; rw [if_neg (by omega)]
theorem itoa_lt (n : Int) (h : n < 0) : itoa n = 45 :: decDigits n.natAbs := by unfold itoa; rw [if_pos h]
theorem dec_ne (u : Nat) : decDigits u ≠ [] := by
  intro e
  have := nDigits_pos u
  rw [← decDigits_length, e] at this
  simp at this
theorem itoa_ne (n : Int) : itoa n ≠ [] := by
  by_cases h : 0 ≤ n
  · rw [itoa_ge n h]; exact dec_ne _
  · rw [itoa_lt n (by omega)]; exact List.cons_ne_nil _ _

/-- what ParseUint answers -/
def puF (l : List UInt8) : Int × Bool :=
  if 10 < l.length then (0, false) else if allDig l = false then (0, false) else if 1000000000 < dval l ∨ itoa (dval l) ≠ l then (0, false) else ((dval l : Nat), true)
theorem nDigits_le10 {u : Nat} (h : u ≤ 1000000000) : nDigits u ≤ 10 := by
  by_cases h0 : nDigits u ≤ 10
  · exact h0
  · exfalso
    have key : ∀ (k v : Nat), v < 10 ^ k → 1 ≤ k → nDigits v ≤ k := by
      intro k
      induction k with
      | zero => intro v _ h; omega
      | succ k ih =>
        intro v hv _
        by_cases hs : v < 10
        · rw [nDigits_small hs]; omega
        · rw [nDigits_big hs]
          have hk : 1 ≤ k := by
            rcases Nat.eq_zero_or_pos k with e | e
            · subst e; simp at hv; omega
            · exact e
          have := ih (v / 10) (by rw [Nat.pow_succ] at hv; omega) hk
          omega
    exact h0 (key 10 u (by omega) (by omega))
theorem puF_in (n : Int) (h0 : 0 ≤ n) (h1 : n ≤ 1000000000) : puF (itoa n) = (n, true) := by
  obtain ⟨u, rfl⟩ : ∃ u : Nat, n = u := ⟨n.toNat, by omega⟩
  have e : itoa (u : Int) = decDigits u := by rw [itoa_ge _ h0]; rfl
  obtain ⟨d1, d2⟩ := dec_dval u
  unfold puF
  rw [e, decDigits_length, if_neg (by have := nDigits_le10 (u := u) (by omega); omega), d2, if_neg (by simp), d1, e, if_neg (by simp; omega)]
theorem puF_out (n : Int) (h : ¬ (0 ≤ n ∧ n ≤ 1000000000)) : puF (itoa n) = (0, false) := by
  unfold puF
  split
  · rfl
  · by_cases h0 : 0 ≤ n
    · obtain ⟨u, rfl⟩ : ∃ u : Nat, n = u := ⟨n.toNat, by omega⟩
      have e : itoa (u : Int) = decDigits u := by rw [itoa_ge _ h0]; rfl
      obtain ⟨d1, d2⟩ := dec_dval u
      rw [e, d2, if_neg (by simp), d1, if_pos (.inl (by omega))]
    · rw [itoa_lt n (by omega), if_pos (by unfold allDig isDig; simp)]
end Go.Proofs.YtpdpkgpjgockaaaDoor
