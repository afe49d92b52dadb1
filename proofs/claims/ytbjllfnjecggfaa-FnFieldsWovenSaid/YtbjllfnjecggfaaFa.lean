/- Plain laws of binary floating point (Ieee alone): a sum, a difference, a product, a quotient that is a whole number of units is given exactly; what a word reads as. No program in sight. -/
import Ieee.Arith
namespace Go.Proofs.Ytbjllfnjecggfaa.Fl
open Ieee

theorem pow_log (n : Nat) (h : n ≠ 0) : 2 ^ n.log2 ≤ n ∧ n < 2 ^ (n.log2 + 1) := ⟨Nat.log2_self_le h, Nat.lt_log2_self⟩

theorem log2_mul_pow (n b : Nat) (h : n ≠ 0) : (n * 2 ^ b).log2 = n.log2 + b := by
  have h1 := pow_log n h
  have hp : 0 < 2 ^ b := Nat.two_pow_pos _
  have hne : n * 2 ^ b ≠ 0 := Nat.mul_ne_zero h (by omega)
  refine (Nat.log2_eq_iff hne).2 ⟨?_, ?_⟩
  · rw [Nat.pow_add]; exact Nat.mul_le_mul_right _ h1.1
  · rw [show n.log2 + b + 1 = (n.log2 + 1) + b by omega, Nat.pow_add]; exact Nat.mul_lt_mul_of_pos_right h1.2 hp

/-- how many digits of a whole number of units are dropped -/
def shiftOf (f : Format) (v : Nat) : Nat := v.log2 - f.fractionBits
/-- the rung of a whole number of units -/
def rungOf (f : Format) (v : Nat) : Nat := shiftOf f v * f.binade + v / 2 ^ shiftOf f v

/-- the format has this whole number of units -/
def Rep (f : Format) (v : Nat) : Prop := ∃ q j, v = q * 2 ^ j ∧ q < 2 ^ (f.fractionBits + 1) ∧ j ≤ 2 ^ f.exponentBits - 3

theorem Rep.shift {f : Format} {v : Nat} (h : Rep f v) (hv : v ≠ 0) : ∃ q, v = q * 2 ^ shiftOf f v ∧ q < 2 ^ (f.fractionBits + 1) ∧ shiftOf f v ≤ 2 ^ f.exponentBits - 3 := by
  obtain ⟨q, j, e, hq, hj⟩ := h
  have h1 := pow_log v hv
  have hlt : v < 2 ^ (f.fractionBits + 1 + j) := by
    rw [Nat.pow_add, e]; exact Nat.mul_lt_mul_of_pos_right hq (Nat.two_pow_pos _)
  have hl : v.log2 < f.fractionBits + 1 + j := (Nat.pow_lt_pow_iff_right (by omega : 1 < 2)).1 (Nat.lt_of_le_of_lt h1.1 hlt)
  have hs : shiftOf f v ≤ j := by unfold shiftOf; omega
  refine ⟨v / 2 ^ shiftOf f v, ?_, ?_, by omega⟩
  · have : 2 ^ shiftOf f v ∣ v := by
      have h3 : 2 ^ shiftOf f v ∣ q * 2 ^ j := Nat.dvd_trans (Nat.pow_dvd_pow 2 hs) (Nat.dvd_mul_left _ _)
      rwa [← e] at h3
    rw [Nat.div_mul_cancel this]
  · refine Nat.div_lt_of_lt_mul ?_
    rw [← Nat.pow_add]
    refine Nat.lt_of_lt_of_le h1.2 (Nat.pow_le_pow_right (by omega) ?_)
    unfold shiftOf; omega

theorem cut_exact (s : Bool) (k d : Nat) : Toward.even.cut s (k * 2 ^ d) d = k := by
  unfold Toward.cut
  dsimp only
  rcases Nat.eq_zero_or_pos k with h | h
  · subst h; simp
  · have hl : d ≤ (k * 2 ^ d).log2 := by rw [log2_mul_pow k d (by omega)]; omega
    rw [Nat.min_eq_left (by omega), Nat.shiftLeft_eq, Nat.one_mul, Nat.mul_div_cancel _ (Nat.two_pow_pos _), Nat.mul_mod_left]
    simp

theorem nearest_exact (f : Format) (he : 2 ≤ f.exponentBits) (s : Bool) (m : Nat) (p : Int) (v : Nat) (h : m * 2 ^ (p - f.leastPlace).toNat = v * 2 ^ (f.leastPlace - p).toNat) (hr : Rep f v) :
    f.nearest s m p = f.word s (rungOf f v) := by
  unfold Format.nearest
  by_cases hv : v = 0
  · subst hv
    have : m = 0 := by
      have := Nat.two_pow_pos (p - f.leastPlace).toNat
      rw [Nat.zero_mul] at h
      rcases Nat.mul_eq_zero.1 h with h | h <;> omega
    subst this
    simp [rungOf, shiftOf]
  · have hm : m ≠ 0 := by
      intro e; subst e; rw [Nat.zero_mul] at h
      have := Nat.two_pow_pos (f.leastPlace - p).toNat
      rcases Nat.mul_eq_zero.1 h.symm with h | h <;> omega
    rw [if_neg hm]
    dsimp only
    have hlog : m.log2 + (p - f.leastPlace).toNat = v.log2 + (f.leastPlace - p).toNat := by
      rw [← log2_mul_pow m _ hm, ← log2_mul_pow v _ hv, h]
    have hlast : max (p + m.log2 - f.fractionBits) f.leastPlace = f.leastPlace + (shiftOf f v : Nat) := by
      unfold shiftOf; omega
    rw [hlast]
    obtain ⟨q, hq, hq2, hsh⟩ := hr.shift hv
    generalize hS : shiftOf f v = S at *
    have e1 : (f.leastPlace + (S : Int) - f.leastPlace).toNat = S := by omega
    rw [e1]
    have hkept : Toward.even.cut s (m <<< (p - (f.leastPlace + (S : Int))).toNat) (f.leastPlace + (S : Int) - p).toNat = q := by
      rcases Int.le_total p f.leastPlace with hp | hp
      · have e2 : (p - (f.leastPlace + (S : Int))).toNat = 0 := by omega
        have e3 : (p - f.leastPlace).toNat = 0 := by omega
        have e4 : (f.leastPlace + (S : Int) - p).toNat = S + (f.leastPlace - p).toNat := by omega
        rw [e2, e4, Nat.shiftLeft_zero]
        rw [e3, Nat.pow_zero, Nat.mul_one] at h
        rw [h, hq, Nat.mul_assoc, ← Nat.pow_add]
        exact cut_exact s q _
      · have e3 : (f.leastPlace - p).toNat = 0 := by omega
        rw [e3, Nat.pow_zero, Nat.mul_one] at h
        rcases Int.le_total (f.leastPlace + (S : Int)) p with hp2 | hp2
        · have e4 : (f.leastPlace + (S : Int) - p).toNat = 0 := by omega
          have e5 : (p - f.leastPlace).toNat = (p - (f.leastPlace + (S : Int))).toNat + S := by omega
          rw [e4, Nat.shiftLeft_eq]
          rw [e5, Nat.pow_add, ← Nat.mul_assoc, hq] at h
          have h := Nat.eq_of_mul_eq_mul_right (Nat.two_pow_pos S) h
          rw [h]
          have := cut_exact s q 0
          rwa [Nat.pow_zero, Nat.mul_one] at this
        · have e4 : (p - (f.leastPlace + (S : Int))).toNat = 0 := by omega
          have e5 : S = (f.leastPlace + (S : Int) - p).toNat + (p - f.leastPlace).toNat := by omega
          rw [e4, Nat.shiftLeft_zero]
          rw [hq] at h
          generalize hD : (f.leastPlace + (S : Int) - p).toNat = D at *
          rw [e5, Nat.pow_add, ← Nat.mul_assoc] at h
          have h := Nat.eq_of_mul_eq_mul_right (Nat.two_pow_pos _) h
          rw [h]; exact cut_exact s q D
    rw [hkept]
    have hq3 : v / 2 ^ S = q := by rw [hq]; exact Nat.mul_div_cancel _ (Nat.two_pow_pos _)
    unfold rungOf
    rw [hS, hq3]
    congr 1
    refine Nat.min_eq_left ?_
    unfold Format.infRung Format.binade
    have h4 : 2 ^ 2 ≤ 2 ^ f.exponentBits := Nat.pow_le_pow_right (by omega) he
    have : (S + 2) * 2 ^ f.fractionBits ≤ (2 ^ f.exponentBits - 1) * 2 ^ f.fractionBits := Nat.mul_le_mul_right _ (by omega)
    rw [Nat.add_mul] at this
    rw [Nat.pow_succ] at hq2
    omega

theorem sw_pos (f : Format) : 0 < f.signWeight := Nat.two_pow_pos _
theorem bin_pos (f : Format) : 0 < f.binade := Nat.two_pow_pos _
theorem infRung_lt (f : Format) : f.infRung < f.signWeight := by
  have h : 0 < 2 ^ f.exponentBits := Nat.two_pow_pos _
  have hb := bin_pos f
  unfold Format.infRung Format.signWeight
  rw [Nat.pow_add]
  exact Nat.mul_lt_mul_of_pos_right (by omega) hb

/-- the word of a sign and a rung reads as that sign and rung -/
theorem word_rung (f : Format) (s : Bool) {r : Nat} (h : r < f.signWeight) : f.word s r % f.signWeight = r := by
  unfold Format.word
  split
  · rw [Nat.add_mod_left, Nat.mod_eq_of_lt h]
  · exact Nat.mod_eq_of_lt h
theorem word_neg (f : Format) (s : Bool) {r : Nat} (h : r < f.signWeight) : (f.word s r / f.signWeight % 2 == 1) = s := by
  have hp := sw_pos f
  unfold Format.word
  cases s
  · simp [Nat.div_eq_of_lt h]
  · simp [Nat.add_div_left _ hp, Nat.div_eq_of_lt h]

theorem read_word (f : Format) (s : Bool) {r : Nat} (h : r < f.signWeight) :
    f.read (f.word s r) = if r < f.binade then .number s r f.leastPlace
      else if r < f.infRung then .number s (f.binade + r % f.binade) (f.leastPlace + (r / f.binade - 1 : Nat))
      else if r = f.infRung then .infinity s else .nan s (r - f.infRung) := by
  unfold Format.read
  simp only [word_rung f s h, word_neg f s h]

theorem rungOf_lt (f : Format) (he : 2 ≤ f.exponentBits) {v : Nat} (hr : Rep f v) : rungOf f v < f.infRung := by
  by_cases hv : v = 0
  · subst hv
    have := bin_pos f
    have h4 : 2 ^ 2 ≤ 2 ^ f.exponentBits := Nat.pow_le_pow_right (by omega) he
    have : 1 * f.binade ≤ (2 ^ f.exponentBits - 1) * f.binade := Nat.mul_le_mul_right _ (by omega)
    simp [rungOf, shiftOf]; unfold Format.infRung; omega
  · obtain ⟨q, hq, hq2, hsh⟩ := hr.shift hv
    have hq3 : v / 2 ^ shiftOf f v = q := Nat.div_eq_of_eq_mul_left (Nat.two_pow_pos _) hq
    unfold rungOf
    rw [hq3]
    unfold Format.infRung Format.binade
    have h4 : 2 ^ 2 ≤ 2 ^ f.exponentBits := Nat.pow_le_pow_right (by omega) he
    have : (shiftOf f v + 2) * 2 ^ f.fractionBits ≤ (2 ^ f.exponentBits - 1) * 2 ^ f.fractionBits := Nat.mul_le_mul_right _ (by omega)
    rw [Nat.add_mul] at this
    rw [Nat.pow_succ] at hq2
    omega

/-- 'mag' and 'place' of a finite word: so many units -/
def unitsOf (f : Format) (m : Nat) (p : Int) : Nat := m * 2 ^ (p - f.leastPlace).toNat

/-- what the exact word reads as -/
theorem read_exact (f : Format) (he : 2 ≤ f.exponentBits) (s : Bool) {v : Nat} (hr : Rep f v) : ∃ m p, f.read (f.word s (rungOf f v)) = .number s m p ∧ f.leastPlace ≤ p ∧ unitsOf f m p = v := by
  have h1 := rungOf_lt f he hr
  have h2 := infRung_lt f
  rw [read_word f s (by omega)]
  have hb := bin_pos f
  by_cases hv : v = 0
  · subst hv
    refine ⟨0, f.leastPlace, ?_, Int.le_refl _, by simp [unitsOf]⟩
    simp [rungOf, shiftOf, hb]
  · obtain ⟨q, hq, hq2, hsh⟩ := hr.shift hv
    have hq3 : v / 2 ^ shiftOf f v = q := Nat.div_eq_of_eq_mul_left (Nat.two_pow_pos _) hq
    by_cases hS : shiftOf f v = 0
    · have hv2 : rungOf f v = v := by unfold rungOf; rw [hS]; simp
      have hvq : v = q := by rw [hS] at hq; simpa using hq
      rw [hv2]
      by_cases hlt : v < f.binade
      · rw [if_pos hlt]; exact ⟨v, f.leastPlace, rfl, Int.le_refl _, by simp [unitsOf]⟩
      · rw [if_neg hlt, if_pos (by omega)]
        have hvb : v < 2 * f.binade := by unfold Format.binade; rw [Nat.pow_succ] at hq2; omega
        have hd : v / f.binade = 1 := by
          refine Nat.div_eq_of_lt_le ?_ ?_
          · omega
          · omega
        refine ⟨_, _, rfl, by omega, ?_⟩
        have hmod : v % f.binade = v - f.binade := by
          have := Nat.div_add_mod v f.binade
          rw [hd] at this; omega
        rw [hd, hmod]; simp [unitsOf]; omega
    · have hlog : f.fractionBits < v.log2 := by unfold shiftOf at hS; omega
      have hqlo : f.binade ≤ q := by
        have h3 := (pow_log v hv).1
        have e : v.log2 = f.fractionBits + shiftOf f v := by unfold shiftOf; omega
        have e2 : 2 ^ v.log2 = 2 ^ f.fractionBits * 2 ^ shiftOf f v := by rw [← Nat.pow_add, ← e]
        rw [e2] at h3
        unfold Format.binade
        refine Nat.le_of_mul_le_mul_right ?_ (Nat.two_pow_pos (shiftOf f v))
        rwa [← hq]
      have hqhi : q < 2 * f.binade := by unfold Format.binade; rw [Nat.pow_succ] at hq2; omega
      have hr2 : rungOf f v = (shiftOf f v + 1) * f.binade + (q - f.binade) := by
        unfold rungOf; rw [hq3, Nat.add_mul]; omega
      have hd : rungOf f v / f.binade = shiftOf f v + 1 := by
        rw [hr2, Nat.mul_comm, Nat.mul_add_div hb, Nat.div_eq_of_lt (by omega), Nat.add_zero]
      have hm : rungOf f v % f.binade = q - f.binade := by
        rw [hr2, Nat.mul_comm, Nat.mul_add_mod, Nat.mod_eq_of_lt (by omega)]
      have hge : ¬ rungOf f v < f.binade := by
        have : 1 * f.binade ≤ (shiftOf f v + 1) * f.binade := Nat.mul_le_mul_right _ (by omega)
        rw [hr2]; omega
      rw [if_neg hge, if_pos h1]
      refine ⟨_, _, rfl, by omega, ?_⟩
      rw [hd, hm]
      have e3 : (f.leastPlace + ((shiftOf f v + 1 - 1 : Nat) : Int) - f.leastPlace).toNat = shiftOf f v := by omega
      unfold unitsOf
      rw [e3]
      exact (congrArg (· * 2 ^ shiftOf f v) (by omega : f.binade + (q - f.binade) = q)).trans hq.symm

/-- a finite word: so many units, and that word is the only one with its sign -/
theorem units_of_read (f : Format) {x : Nat} (hx : x < 2 * f.signWeight) {s : Bool} {m : Nat} {p : Int} (h : f.read x = .number s m p) :
    f.leastPlace ≤ p ∧ Rep f (unitsOf f m p) ∧ x = f.word s (rungOf f (unitsOf f m p)) := by
  have hp := sw_pos f
  have hb := bin_pos f
  have hdm := Nat.div_add_mod x f.signWeight
  have hmod := Nat.mod_lt x hp
  have hd2 : x / f.signWeight < 2 := Nat.div_lt_of_lt_mul (by rw [Nat.mul_comm]; exact hx)
  have hword : x = f.word (x / f.signWeight % 2 == 1) (x % f.signWeight) := by
    unfold Format.word
    have h01 : x / f.signWeight = 0 ∨ x / f.signWeight = 1 := by generalize x / f.signWeight = g at hd2; omega
    rcases h01 with e | e <;> rw [e] at hdm ⊢ <;> simp <;> omega
  unfold Format.read at h
  dsimp only at h
  split at h
  · rename_i hlt
    cases h
    refine ⟨Int.le_refl _, ?_, ?_⟩
    · exact ⟨x % f.signWeight, 0, by simp [unitsOf], by unfold Format.binade at hlt; rw [Nat.pow_succ]; omega, Nat.zero_le _⟩
    · have : rungOf f (unitsOf f (x % f.signWeight) f.leastPlace) = x % f.signWeight := by
        simp only [unitsOf, Int.sub_self, Int.toNat_zero, Nat.pow_zero, Nat.mul_one]
        have hs : shiftOf f (x % f.signWeight) = 0 := by
          unfold shiftOf
          by_cases h0 : x % f.signWeight = 0
          · rw [h0]; simp
          · have h1 := pow_log _ h0
            have := (Nat.pow_lt_pow_iff_right (by omega : 1 < 2)).1 (Nat.lt_of_le_of_lt h1.1 hlt)
            omega
        unfold rungOf; rw [hs]; simp
      rw [this]; exact hword
  · rename_i hge
    split at h
    · rename_i hlt
      cases h
      generalize hR : x % f.signWeight = R at *
      have hRd := Nat.div_add_mod R f.binade
      have hRm := Nat.mod_lt R hb
      have hd1 : 1 ≤ R / f.binade := (Nat.le_div_iff_mul_le hb).2 (by omega)
      have hdhi : R / f.binade < 2 ^ f.exponentBits - 1 := Nat.div_lt_of_lt_mul (by rw [Nat.mul_comm]; exact hlt)
      have hu : unitsOf f (f.binade + R % f.binade) (f.leastPlace + ((R / f.binade - 1 : Nat) : Int)) = (f.binade + R % f.binade) * 2 ^ (R / f.binade - 1) := by
        unfold unitsOf; congr 2; omega
      have hrep : Rep f ((f.binade + R % f.binade) * 2 ^ (R / f.binade - 1)) := ⟨_, _, rfl, by rw [Nat.pow_succ]; unfold Format.binade at *; omega, by omega⟩
      have hq0 : f.binade + R % f.binade ≠ 0 := by omega
      have hlogq : (f.binade + R % f.binade).log2 = f.fractionBits := by
        refine (Nat.log2_eq_iff hq0).2 ⟨?_, ?_⟩
        · unfold Format.binade; omega
        · rw [Nat.pow_succ]; unfold Format.binade at *; omega
      have hsh : shiftOf f ((f.binade + R % f.binade) * 2 ^ (R / f.binade - 1)) = R / f.binade - 1 := by
        unfold shiftOf; rw [log2_mul_pow _ _ hq0, hlogq]; omega
      rw [hu]
      refine ⟨by omega, hrep, ?_⟩
      have : rungOf f ((f.binade + R % f.binade) * 2 ^ (R / f.binade - 1)) = R := by
        unfold rungOf; rw [hsh, Nat.mul_div_cancel _ (Nat.two_pow_pos _)]
        have : (R / f.binade - 1) * f.binade + f.binade = (R / f.binade) * f.binade := by rw [← Nat.succ_mul]; congr 1; omega
        rw [Nat.mul_comm f.binade] at hRd
        omega
      rw [this]; exact hword
    · split at h <;> cases h

theorem read_place {f : Format} {x : Nat} {s : Bool} {m : Nat} {p : Int} (h : f.read x = .number s m p) : f.leastPlace ≤ p := by
  unfold Format.read at h
  dsimp only at h
  split at h
  · cases h; exact Int.le_refl _
  · split at h
    · cases h; omega
    · split at h <;> cases h

/-- a signed count of units -/
def sg (s : Bool) (v : Nat) : Int := if s then -(v : Int) else v
theorem sg_natAbs (s : Bool) (v : Nat) : (sg s v).natAbs = v := by unfold sg; split <;> simp

/-- WHAT A FINITE WORD IS WORTH, in units of the format's least place; none: an infinity or a NaN -/
def sc (f : Format) (x : Nat) : Option Int := match f.read x with | .number s m p => some (sg s (unitsOf f m p)) | _ => none

theorem sc_read {f : Format} {x : Nat} {a : Int} (h : sc f x = some a) : ∃ s m p, f.read x = .number s m p ∧ f.leastPlace ≤ p ∧ a = sg s (unitsOf f m p) := by
  unfold sc at h
  split at h
  · rename_i s m p e; cases h; exact ⟨s, m, p, e, read_place e, rfl⟩
  · cases h

theorem signed_up {f : Format} {s : Bool} {m : Nat} {p base : Int} (h1 : f.leastPlace ≤ base) (h2 : base ≤ p) : signed s m (p - base).toNat * ((2 ^ (base - f.leastPlace).toNat : Nat) : Int) = sg s (unitsOf f m p) := by
  unfold signed sg unitsOf
  have e : (p - f.leastPlace).toNat = (p - base).toNat + (base - f.leastPlace).toNat := by omega
  rw [e, Nat.shiftLeft_eq, Nat.pow_add, ← Nat.mul_assoc]
  cases s <;> simp [Int.neg_mul]

theorem compare_mul (a b : Int) (c : Nat) (h : 0 < c) : compare (a * c) (b * c) = compare a b := by
  have hc : (0 : Int) < c := by omega
  rcases Int.lt_trichotomy a b with h1 | h1 | h1
  · rw [Int.compare_eq_lt.2 (Int.mul_lt_mul_of_pos_right h1 hc), Int.compare_eq_lt.2 h1]
  · subst h1; simp
  · rw [Int.compare_eq_gt.2 (Int.mul_lt_mul_of_pos_right h1 hc), Int.compare_eq_gt.2 h1]

theorem order_sc {f : Format} {x y : Nat} {a b : Int} (hx : sc f x = some a) (hy : sc f y = some b) : f.order x y = some (compare a b) := by
  obtain ⟨s, m, i, ex, hi, rfl⟩ := sc_read hx
  obtain ⟨t, n, j, ey, hj, rfl⟩ := sc_read hy
  unfold Format.order
  rw [ex, ey]
  simp only [Datum.order]
  have hb : f.leastPlace ≤ min i j := by omega
  rw [← signed_up hb (by omega : min i j ≤ i), ← signed_up hb (by omega : min i j ≤ j), compare_mul _ _ _ (Nat.two_pow_pos _)]

theorem write_exact {f : Format} (he : 2 ≤ f.exponentBits) {s : Bool} {m : Nat} {p : Int} {v : Nat} (h : m * 2 ^ (p - f.leastPlace).toNat = v * 2 ^ (f.leastPlace - p).toNat) (hr : Rep f v) :
    f.write (.number s m p) = f.word s (rungOf f v) ∧ sc f (f.word s (rungOf f v)) = some (sg s v) := by
  refine ⟨nearest_exact f he s m p v h hr, ?_⟩
  obtain ⟨m', p', e, _, hu⟩ := read_exact f he s hr
  unfold sc
  rw [e, ← hu]

theorem sum_exact {f : Format} (he : 2 ≤ f.exponentBits) {s t : Bool} {m n : Nat} {i j : Int} (hi : f.leastPlace ≤ i) (hj : f.leastPlace ≤ j) (hr : Rep f (sg s (unitsOf f m i) + sg t (unitsOf f n j)).natAbs) :
    ∃ r, ((Datum.number s m i).sum (Datum.number t n j)).map f.write = some r ∧ sc f r = some (sg s (unitsOf f m i) + sg t (unitsOf f n j)) := by
  simp only [Datum.sum, Option.map_some]
  have hb : f.leastPlace ≤ min i j := by omega
  have h1 := signed_up (s := s) (m := m) hb (by omega : min i j ≤ i)
  have h2 := signed_up (s := t) (m := n) hb (by omega : min i j ≤ j)
  generalize signed s m (i - min i j).toNat = A at *
  generalize signed t n (j - min i j).toNat = B at *
  generalize sg s (unitsOf f m i) = a at *
  generalize sg t (unitsOf f n j) = b at *
  have hab : (A + B) * ((2 ^ (min i j - f.leastPlace).toNat : Nat) : Int) = a + b := by rw [Int.add_mul, h1, h2]
  have hz : (f.leastPlace - min i j).toNat = 0 := by omega
  have hn : (A + B).natAbs * 2 ^ (min i j - f.leastPlace).toNat = (a + b).natAbs * 2 ^ (f.leastPlace - min i j).toNat := by
    rw [hz, Nat.pow_zero, Nat.mul_one, ← hab, Int.natAbs_mul, Int.natAbs_natCast]
  have hpos : (0 : Int) < ((2 ^ (min i j - f.leastPlace).toNat : Nat) : Int) := by have := Nat.two_pow_pos (min i j - f.leastPlace).toNat; omega
  obtain ⟨w1, w2⟩ := write_exact (s := if A + B = 0 then s && t else decide (A + B < 0)) he hn hr
  refine ⟨_, rfl, ?_⟩
  rw [w1, w2]
  congr 1
  by_cases h0 : A + B = 0
  · have : a + b = 0 := by rw [← hab, h0, Int.zero_mul]
    rw [this]; simp [sg]
  · rw [if_neg h0]
    by_cases hlt : A + B < 0
    · have : a + b < 0 := by rw [← hab]; exact Int.mul_neg_of_neg_of_pos hlt hpos
      simp [sg, hlt]; omega
    · have : 0 < a + b := by rw [← hab]; exact Int.mul_pos (by omega) hpos
      simp [sg, hlt]; omega

theorem add_exact {f : Format} (he : 2 ≤ f.exponentBits) {x y : Nat} {a b : Int} (hx : sc f x = some a) (hy : sc f y = some b) (hr : Rep f (a + b).natAbs) : ∃ r, f.add x y = some r ∧ sc f r = some (a + b) := by
  obtain ⟨s, m, i, ex, hi, rfl⟩ := sc_read hx
  obtain ⟨t, n, j, ey, hj, rfl⟩ := sc_read hy
  unfold Format.add
  rw [ex, ey]
  exact sum_exact he hi hj hr

theorem sub_exact {f : Format} (he : 2 ≤ f.exponentBits) {x y : Nat} {a b : Int} (hx : sc f x = some a) (hy : sc f y = some b) (hr : Rep f (a - b).natAbs) : ∃ r, f.sub x y = some r ∧ sc f r = some (a - b) := by
  obtain ⟨s, m, i, ex, hi, rfl⟩ := sc_read hx
  obtain ⟨t, n, j, ey, hj, rfl⟩ := sc_read hy
  unfold Format.sub
  rw [ex, ey]
  have e : sg t (unitsOf f n j) = - sg (!t) (unitsOf f n j) := by cases t <;> simp [sg]
  rw [e, Int.sub_neg] at hr ⊢
  exact sum_exact he hi hj hr

/-- a product that is a whole number of units -/
theorem mul_exact {f : Format} (he : 2 ≤ f.exponentBits) (hL : f.leastPlace ≤ 0) {x y : Nat} {a b v : Int} (hx : sc f x = some a) (hy : sc f y = some b) (hv : a * b = v * ((2 ^ (-f.leastPlace).toNat : Nat) : Int)) (hr : Rep f v.natAbs) :
    ∃ r, f.mul x y = some r ∧ sc f r = some v := by
  obtain ⟨s, m, i, ex, hi, rfl⟩ := sc_read hx
  obtain ⟨t, n, j, ey, hj, rfl⟩ := sc_read hy
  unfold Format.mul
  rw [ex, ey]
  simp only [Datum.product, Option.map_some]
  have hnat : unitsOf f m i * unitsOf f n j = v.natAbs * 2 ^ (-f.leastPlace).toNat := by
    have := congrArg Int.natAbs hv
    rwa [Int.natAbs_mul, Int.natAbs_mul, sg_natAbs, sg_natAbs, Int.natAbs_natCast] at this
  have hn : m * n * 2 ^ (i + j - f.leastPlace).toNat = v.natAbs * 2 ^ (f.leastPlace - (i + j)).toNat := by
    unfold unitsOf at hnat
    rcases Int.le_total f.leastPlace (i + j) with h | h
    · have e1 : (f.leastPlace - (i + j)).toNat = 0 := by omega
      have e2 : (i - f.leastPlace).toNat + (j - f.leastPlace).toNat = (i + j - f.leastPlace).toNat + (-f.leastPlace).toNat := by omega
      rw [e1, Nat.pow_zero, Nat.mul_one]
      refine Nat.eq_of_mul_eq_mul_right (Nat.two_pow_pos (-f.leastPlace).toNat) ?_
      rw [← hnat, Nat.mul_assoc, ← Nat.pow_add, ← e2, Nat.pow_add]
      simp only [Nat.mul_left_comm, Nat.mul_assoc]
    · have e1 : (i + j - f.leastPlace).toNat = 0 := by omega
      have e2 : (i - f.leastPlace).toNat + (j - f.leastPlace).toNat + (f.leastPlace - (i + j)).toNat = (-f.leastPlace).toNat := by omega
      rw [e1, Nat.pow_zero, Nat.mul_one]
      refine Nat.eq_of_mul_eq_mul_right (Nat.two_pow_pos ((i - f.leastPlace).toNat + (j - f.leastPlace).toNat)) ?_
      rw [Nat.mul_assoc v.natAbs, ← Nat.pow_add, Nat.add_comm (f.leastPlace - (i + j)).toNat, e2, ← hnat, Nat.pow_add]
      simp only [Nat.mul_left_comm, Nat.mul_assoc]
  obtain ⟨w1, w2⟩ := write_exact (s := s ^^ t) he hn hr
  refine ⟨_, rfl, ?_⟩
  rw [w1, w2]
  congr 1
  have hP : ((2 ^ (-f.leastPlace).toNat : Nat) : Int) ≠ 0 := by have := Nat.two_pow_pos (-f.leastPlace).toNat; omega
  refine Int.eq_of_mul_eq_mul_right hP ?_
  rw [← hv]
  have e3 : sg (s ^^ t) v.natAbs * ((2 ^ (-f.leastPlace).toNat : Nat) : Int) = sg (s ^^ t) (v.natAbs * 2 ^ (-f.leastPlace).toNat) := by
    unfold sg; cases s <;> cases t <;> simp [Int.neg_mul]
  rw [e3, ← hnat]
  unfold sg; cases s <;> cases t <;> simp [Int.neg_mul, Int.mul_neg]

theorem log2_mul_le (a b : Nat) (ha : a ≠ 0) (hb : b ≠ 0) : (a * b).log2 ≤ a.log2 + b.log2 + 1 := by
  have h1 := pow_log a ha
  have h2 := pow_log b hb
  have hab : a * b ≠ 0 := Nat.mul_ne_zero ha hb
  have h3 := pow_log _ hab
  have h4 : a * b < 2 ^ (a.log2 + 1 + (b.log2 + 1)) := by
    rw [Nat.pow_add]; exact Nat.mul_lt_mul'' h1.2 h2.2
  have := (Nat.pow_lt_pow_iff_right (by omega : 1 < 2)).1 (Nat.lt_of_le_of_lt h3.1 h4)
  omega

/-- a quotient that is a whole number of units -/
theorem div_exact {f : Format} (he : 2 ≤ f.exponentBits) (hL : f.leastPlace ≤ 0) {x y : Nat} {a b v : Int} (hx : sc f x = some a) (hy : sc f y = some b) (hb : b ≠ 0) (hv : a * ((2 ^ (-f.leastPlace).toNat : Nat) : Int) = v * b) (hr : Rep f v.natAbs) :
    ∃ r, f.div x y = some r ∧ sc f r = some v := by
  obtain ⟨s, m, i, ex, hi, rfl⟩ := sc_read hx
  obtain ⟨t, n, j, ey, hj, rfl⟩ := sc_read hy
  unfold Format.div
  rw [ex, ey]
  have hn0 : n ≠ 0 := by
    intro e; subst e; apply hb; unfold sg unitsOf; simp
  simp only [Datum.quotient, if_neg hn0, Option.map_some]
  have hnat : unitsOf f m i * 2 ^ (-f.leastPlace).toNat = v.natAbs * unitsOf f n j := by
    have := congrArg Int.natAbs hv
    rwa [Int.natAbs_mul, Int.natAbs_mul, sg_natAbs, sg_natAbs, Int.natAbs_natCast] at this
  generalize hmore : f.fractionBits + 2 + n.log2 - m.log2 = more
  -- the dividend is a multiple of the divisor
  have hdvd : n ∣ m <<< more := by
    rw [Nat.shiftLeft_eq]
    by_cases hm0 : m = 0
    · subst hm0; simp
    · have hv0 : v.natAbs ≠ 0 := by
        intro e; rw [e, Nat.zero_mul] at hnat
        have h1 := Nat.two_pow_pos (-f.leastPlace).toNat
        have h2 := Nat.two_pow_pos (i - f.leastPlace).toNat
        unfold unitsOf at hnat
        have := Nat.mul_pos (Nat.mul_pos (by omega : 0 < m) h2) h1
        omega
      obtain ⟨q, hq, hq2, _⟩ := hr.shift hv0
      have hq0 : q ≠ 0 := by intro e; rw [e, Nat.zero_mul] at hq; exact hv0 hq
      generalize shiftOf f v.natAbs = S at *
      unfold unitsOf at hnat
      have h1 : m * 2 ^ ((i - f.leastPlace).toNat + (-f.leastPlace).toNat) = q * n * 2 ^ (S + (j - f.leastPlace).toNat) := by
        rw [Nat.pow_add, Nat.pow_add, ← Nat.mul_assoc, hnat, hq]
        simp only [Nat.mul_left_comm, Nat.mul_assoc]
      generalize (i - f.leastPlace).toNat + (-f.leastPlace).toNat = A at *
      generalize S + (j - f.leastPlace).toNat = B at *
      rcases Nat.le_total A B with h | h
      · have e : B = (B - A) + A := by omega
        rw [e, Nat.pow_add, ← Nat.mul_assoc] at h1
        have h1 := Nat.eq_of_mul_eq_mul_right (Nat.two_pow_pos A) h1
        rw [h1, Nat.mul_comm q, Nat.mul_assoc, Nat.mul_assoc]
        exact Nat.dvd_mul_right _ _
      · have e : A = (A - B) + B := by omega
        rw [e, Nat.pow_add, ← Nat.mul_assoc] at h1
        have h1 := Nat.eq_of_mul_eq_mul_right (Nat.two_pow_pos B) h1
        have h2 : m.log2 + (A - B) ≤ q.log2 + n.log2 + 1 := by
          rw [← log2_mul_pow m _ hm0, h1]; exact log2_mul_le q n hq0 hn0
        have h3 : q.log2 < f.fractionBits + 1 := (Nat.pow_lt_pow_iff_right (by omega : 1 < 2)).1 (Nat.lt_of_le_of_lt (pow_log q hq0).1 hq2)
        have h4 : more = (A - B) + (more - (A - B)) := by omega
        rw [h4, Nat.pow_add, ← Nat.mul_assoc, h1, Nat.mul_comm q, Nat.mul_assoc]
        exact Nat.dvd_mul_right _ _
  obtain ⟨c, hc⟩ := hdvd
  have hc2 : (m <<< more) / n = c := by rw [hc]; exact Nat.mul_div_cancel_left _ (by omega)
  have hc3 : (m <<< more % n != 0).toNat = 0 := by rw [hc]; simp
  rw [hc2, hc3, Nat.add_zero]
  have hn : 2 * c * 2 ^ (i - j - (more : Int) - 1 - f.leastPlace).toNat = v.natAbs * 2 ^ (f.leastPlace - (i - j - (more : Int) - 1)).toNat := by
    have hpos : 0 < n * 2 ^ (j - f.leastPlace).toNat := Nat.mul_pos (by omega) (Nat.two_pow_pos _)
    refine Nat.eq_of_mul_eq_mul_right hpos ?_
    have l1 : 2 * c * 2 ^ (i - j - (more : Int) - 1 - f.leastPlace).toNat * (n * 2 ^ (j - f.leastPlace).toNat) = m * 2 ^ (more + 1 + (i - j - (more : Int) - 1 - f.leastPlace).toNat + (j - f.leastPlace).toNat) := by
      have hc' : m * 2 ^ more = n * c := by rw [← Nat.shiftLeft_eq]; exact hc
      rw [Nat.pow_add, Nat.pow_add, Nat.pow_add, Nat.pow_one]
      generalize 2 ^ (i - j - (more : Int) - 1 - f.leastPlace).toNat = Z
      generalize 2 ^ (j - f.leastPlace).toNat = Y
      rw [show m * (2 ^ more * 2 * Z * Y) = (m * 2 ^ more) * (2 * Z * Y) by simp only [Nat.mul_assoc], hc']
      simp only [Nat.mul_comm, Nat.mul_left_comm, Nat.mul_assoc]
    have l2 : v.natAbs * 2 ^ (f.leastPlace - (i - j - (more : Int) - 1)).toNat * (n * 2 ^ (j - f.leastPlace).toNat) = m * 2 ^ ((i - f.leastPlace).toNat + (-f.leastPlace).toNat + (f.leastPlace - (i - j - (more : Int) - 1)).toNat) := by
      have : v.natAbs * 2 ^ (f.leastPlace - (i - j - (more : Int) - 1)).toNat * (n * 2 ^ (j - f.leastPlace).toNat) = v.natAbs * unitsOf f n j * 2 ^ (f.leastPlace - (i - j - (more : Int) - 1)).toNat := by
        unfold unitsOf; simp only [Nat.mul_comm, Nat.mul_left_comm, Nat.mul_assoc]
      rw [this, ← hnat, Nat.pow_add, Nat.pow_add]
      unfold unitsOf; simp only [Nat.mul_assoc]
    rw [l1, l2]
    congr 2
    omega
  obtain ⟨w1, w2⟩ := write_exact (s := s ^^ t) he hn hr
  refine ⟨_, rfl, ?_⟩
  rw [w1, w2]
  congr 1
  refine Int.eq_of_mul_eq_mul_right hb ?_
  rw [← hv]
  have e3 : sg (s ^^ t) v.natAbs * sg t (unitsOf f n j) = sg s (v.natAbs * unitsOf f n j) := by
    unfold sg; cases s <;> cases t <;> simp [Int.neg_mul, Int.mul_neg]
  rw [e3, ← hnat]
  unfold sg; cases s <;> simp [Int.neg_mul]
end Go.Proofs.Ytbjllfnjecggfaa.Fl
