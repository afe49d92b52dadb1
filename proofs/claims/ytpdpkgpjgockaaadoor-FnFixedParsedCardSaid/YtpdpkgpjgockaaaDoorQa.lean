/- Plain laws: what a reader of thousandths answers. No program in sight. -/
import Derived.Test.YtpdpkgpjgockaaaDoorPb
namespace Go.Proofs.YtpdpkgpjgockaaaDoor
open Go.Lib

/-- what ParseFixed answers -/
noncomputable def pfF (l : List UInt8) : Int × Bool := by
  classical
  exact if h : ∃ n, ffF n = l ∧ l ≠ [] then (h.choose, true) else (0, false)
theorem pf_no {l : List UInt8} (h : ¬ ∃ n, ffF n = l ∧ l ≠ []) : pfF l = (0, false) := by unfold pfF; rw [dif_neg h]
theorem pf_yes {l : List UInt8} {n : Int} (h : ffF n = l) (hl : l ≠ []) : pfF l = (n, true) := by
  have hx : ∃ n, ffF n = l ∧ l ≠ [] := ⟨n, h, hl⟩
  unfold pfF
  rw [dif_pos hx]
  have := hx.choose_spec
  have e : hx.choose = n := ffF_inj (this.1.trans h.symm) (by rw [this.1]; exact hl)
  rw [e]
/-- how many digits stand ahead of place k, where the point stands at p -/
def posd (p k : Nat) : Nat := if k ≤ p then k else k - 1
theorem pos_at (p : Nat) : posd p (p + 1) = posd p p := by unfold posd; rw [if_neg (by omega), if_pos (by omega)]; omega
theorem pos_lo {p k : Nat} (h : k < p) : posd p (k + 1) = posd p k + 1 ∧ posd p k = k := by unfold posd; rw [if_pos (by omega), if_pos (by omega)]; exact ⟨rfl, rfl⟩
theorem pos_hi {p k : Nat} (h : p < k) : posd p (k + 1) = posd p k + 1 ∧ posd p k = k - 1 := by unfold posd; rw [if_neg (by omega), if_neg (by omega)]; omega
theorem pos_end (p : Nat) : posd p (p + 4) = p + 3 := by unfold posd; rw [if_neg (by omega)]; omega
theorem pos_le (p k : Nat) (h : k ≤ p + 4) : posd p k ≤ p + 3 ∨ posd p k ≤ p := by unfold posd; split <;> omega
theorem take_next {u : List UInt8} {j : Nat} {c : UInt8} (h : u[j]? = some c) : u.take (j + 1) = u.take j ++ [c] := by
  rw [List.take_add_one, h]; rfl
/-- what stands at place k of a text of thousandths -/
theorem place {a b : List UInt8} {k : Nat} {c : UInt8} (h : (a ++ 46 :: b)[k]? = some c) (hk : k ≠ a.length) : (a ++ b)[posd a.length k]? = some c := by
  by_cases hlt : k < a.length
  · rw [(pos_lo hlt).2]
    rw [List.getElem?_append_left hlt] at h ⊢
    exact h
  · have hgt : a.length < k := by omega
    rw [(pos_hi hgt).2]
    rw [List.getElem?_append_right (by omega)] at h ⊢
    rw [show k - a.length = (k - 1 - a.length) + 1 by omega, List.getElem?_cons_succ] at h
    exact h
theorem dig_at {u : List UInt8} {j : Nat} {c : UInt8} (hd : allDig u = true) (h : u[j]? = some c) : 48 ≤ c.toNat ∧ c.toNat ≤ 57 := by
  have := List.all_eq_true.1 hd c (List.mem_of_getElem? h)
  unfold isDig at this
  simpa using this
theorem dval_take {u : List UInt8} (hd : allDig u = true) (j : Nat) (hj : u.length ≤ 11) : dval (u.take j) < 100000000000 := by
  have h1 : allDig (u.take j) = true := by
    unfold allDig at hd ⊢
    rw [List.all_eq_true] at hd ⊢
    exact fun c hc => hd c (List.mem_of_mem_take hc)
  have h2 := dval_lt _ h1
  have h3 : (u.take j).length ≤ 11 := by rw [List.length_take]; omega
  have h4 := Nat.pow_le_pow_right (show 0 < 10 by omega) h3
  omega
end Go.Proofs.YtpdpkgpjgockaaaDoor
