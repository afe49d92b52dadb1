/- Laws of float operations in a world: the bits of a NaN are drawn from the tape; 'fv' is a float with a NaN's bits forgotten; widening; comparisons. -/
import Derived.Laws.FloatArith
import Derived.Deep.Draws
import Derived.Laws.ComplexArith
import Derived.Test.YtbjllfnjecggfaaFa
namespace Go.Proofs.Ytbjllfnjecggfaa.Fl
open Ieee

theorem binade_lt_inf (f : Format) (h : 1 < f.exponentBits) : f.binade < f.infRung := by
  have := bin_pos f
  unfold Format.infRung
  have h2 : 2 ^ 2 ≤ 2 ^ f.exponentBits := Nat.pow_le_pow_right (by omega) h
  have : 3 * f.binade ≤ (2 ^ f.exponentBits - 1) * f.binade := Nat.mul_le_mul_right _ (by omega)
  omega

theorem nearest_word (f : Format) (s : Bool) (m : Nat) (p : Int) : ∃ r, r ≤ f.infRung ∧ f.nearest s m p = f.word s r := by
  unfold Format.nearest
  dsimp only
  split
  · exact ⟨0, Nat.zero_le _, rfl⟩
  · exact ⟨_, Nat.min_le_right _ _, rfl⟩

theorem read_word_notNaN (f : Format) (s : Bool) {r : Nat} (h : r ≤ f.infRung) : (f.read (f.word s r)).isNaN = false := by
  rw [read_word f s (Nat.lt_of_le_of_lt h (infRung_lt f))]
  split
  · rfl
  · split
    · rfl
    · rw [if_pos (by omega)]; rfl

theorem write_notNaN (f : Format) {d : Datum} (h : d.isNaN = false) : (f.read (f.write d)).isNaN = false := by
  cases d with
  | number s m p =>
    obtain ⟨r, hr, e⟩ := nearest_word f s m p
    show (f.read (f.nearest s m p)).isNaN = false
    rw [e]; exact read_word_notNaN f s hr
  | infinity s => exact read_word_notNaN f s (Nat.le_refl _)
  | nan s t => cases h

theorem sum_notNaN {a b d : Datum} (h : a.sum b = some d) : d.isNaN = false := by
  cases a <;> cases b <;> simp only [Datum.sum] at h <;> first | (cases h; done) | skip
  all_goals first | (cases h; rfl) | (split at h <;> first | (cases h; rfl) | cases h)
theorem product_notNaN {a b d : Datum} (h : a.product b = some d) : d.isNaN = false := by
  cases a <;> cases b <;> simp only [Datum.product] at h <;> first | (cases h; done) | skip
  all_goals first | (cases h; rfl) | (split at h <;> first | (cases h; rfl) | cases h)
theorem quotient_notNaN {n : Nat} {a b d : Datum} (h : a.quotient n b = some d) : d.isNaN = false := by
  cases a <;> cases b <;> simp only [Datum.quotient] at h <;> first | (cases h; done) | skip
  all_goals first | (cases h; rfl) | (repeat' split at h) <;> first | (cases h; rfl) | cases h

theorem sum_nan_left {a b : Datum} (h : a.isNaN = true) : a.sum b = none := by cases a <;> simp_all [Datum.isNaN, Datum.sum]
theorem sum_nan_right {a b : Datum} (h : b.isNaN = true) : a.sum b = none := by cases a <;> cases b <;> simp_all [Datum.isNaN, Datum.sum]
theorem product_nan_left {a b : Datum} (h : a.isNaN = true) : a.product b = none := by cases a <;> simp_all [Datum.isNaN, Datum.product]
theorem product_nan_right {a b : Datum} (h : b.isNaN = true) : a.product b = none := by cases a <;> cases b <;> simp_all [Datum.isNaN, Datum.product]
theorem quotient_nan_left {n : Nat} {a b : Datum} (h : a.isNaN = true) : a.quotient n b = none := by cases a <;> simp_all [Datum.isNaN, Datum.quotient]
theorem quotient_nan_right {n : Nat} {a b : Datum} (h : b.isNaN = true) : a.quotient n b = none := by cases a <;> cases b <;> simp_all [Datum.isNaN, Datum.quotient]
theorem order_nan_left {a b : Datum} (h : a.isNaN = true) : a.order b = none := by cases a <;> simp_all [Datum.isNaN, Datum.order]
theorem order_nan_right {a b : Datum} (h : b.isNaN = true) : a.order b = none := by cases a <;> cases b <;> simp_all [Datum.isNaN, Datum.order]
theorem opp_nan (a : Datum) : a.opposite.isNaN = a.isNaN := by cases a <;> rfl

/-- WHAT A FLOAT IS, NaN's BITS ASIDE: none: a NaN; else its bits -/
def fv (k : FloatKind) (b : Nat) : Option Nat := if (k.format.read b).isNaN then none else some b

theorem fv_none {k : FloatKind} {b : Nat} : fv k b = none ↔ (k.format.read b).isNaN = true := by
  unfold fv; split <;> simp_all
theorem fv_some {k : FloatKind} {b c : Nat} : fv k b = some c ↔ (k.format.read b).isNaN = false ∧ b = c := by
  unfold fv; split <;> simp_all

def fop (op : BinOp) (k : FloatKind) : Option Nat → Option Nat → Option Nat
  | some x, some y => floatBits op k x y
  | _, _ => none

theorem floatBits_fv (op : BinOp) (k : FloatKind) (x y : Nat) : floatBits op k x y = fop op k (fv k x) (fv k y) := by
  by_cases hx : (k.format.read x).isNaN = true
  · have : fv k x = none := fv_none.2 hx
    rw [this]
    show _ = none
    unfold floatBits
    cases op <;> try rfl
    · simp [Format.add, sum_nan_left hx]
    · simp [Format.sub, sum_nan_left hx]
    · simp [Format.mul, product_nan_left hx]
    · simp [Format.div, quotient_nan_left hx]
  · have e1 : fv k x = some x := fv_some.2 ⟨by simpa using hx, rfl⟩
    by_cases hy : (k.format.read y).isNaN = true
    · have : fv k y = none := fv_none.2 hy
      rw [this, e1]
      show _ = none
      unfold floatBits
      cases op <;> try rfl
      · simp [Format.add, sum_nan_right hy]
      · simp [Format.sub, sum_nan_right ((opp_nan _).trans hy)]
      · simp [Format.mul, product_nan_right hy]
      · simp [Format.div, quotient_nan_right hy]
    · have e2 : fv k y = some y := fv_some.2 ⟨by simpa using hy, rfl⟩
      rw [e1, e2]; rfl

theorem map_notNaN (f : Format) {o : Option Datum} {r : Nat} (h : o.map f.write = some r) (ho : ∀ d, o = some d → d.isNaN = false) : (f.read r).isNaN = false := by
  cases o with
  | none => cases h
  | some d => cases h; exact write_notNaN f (ho d rfl)

theorem floatBits_notNaN {op : BinOp} {k : FloatKind} {x y r : Nat} (h : floatBits op k x y = some r) : (k.format.read r).isNaN = false := by
  unfold floatBits at h
  split at h
  · exact map_notNaN _ h fun d hd => sum_notNaN hd
  · exact map_notNaN _ h fun d hd => sum_notNaN hd
  · exact map_notNaN _ h fun d hd => product_notNaN hd
  · exact map_notNaN _ h fun d hd => quotient_notNaN hd
  · cases h



/-! ### the world: what a float operation draws -/
/-- the bits of a NaN that the tape answers with -/
def drawn (w : World) (q : Question) : Nat := q.cut (w.tape w.drawn q)

theorem single_nan (t : Nat) : (single.read ((t % 2) * 2 ^ 31 + 0x7f800000 + 1 + (t / 2) % (2 ^ 23 - 1))).isNaN = true := by
  have e : (t % 2) * 2 ^ 31 + 0x7f800000 + 1 + (t / 2) % (2 ^ 23 - 1) = single.word (t % 2 == 1) (0x7f800000 + 1 + (t / 2) % (2 ^ 23 - 1)) := by
    unfold Format.word
    have : t % 2 = 0 ∨ t % 2 = 1 := by omega
    rcases this with h | h <;> simp [h, Format.signWeight, single] <;> omega
  rw [e, read_word _ _ (by simp [Format.signWeight, single]; omega)]
  have hi : single.infRung = 0x7f800000 := by decide
  have hb : single.binade = 8388608 := by decide
  rw [hi, hb, if_neg (by omega), if_neg (by omega), if_neg (by omega)]; rfl
theorem double_nan (t : Nat) : (double.read ((t % 2) * 2 ^ 63 + 0x7ff0000000000000 + 1 + (t / 2) % (2 ^ 52 - 1))).isNaN = true := by
  have e : (t % 2) * 2 ^ 63 + 0x7ff0000000000000 + 1 + (t / 2) % (2 ^ 52 - 1) = double.word (t % 2 == 1) (0x7ff0000000000000 + 1 + (t / 2) % (2 ^ 52 - 1)) := by
    unfold Format.word
    have : t % 2 = 0 ∨ t % 2 = 1 := by omega
    rcases this with h | h <;> simp [h, Format.signWeight, double] <;> omega
  rw [e, read_word _ _ (by simp [Format.signWeight, double]; omega)]
  have hi : double.infRung = 0x7ff0000000000000 := by decide
  have hb : double.binade = 4503599627370496 := by decide
  rw [hi, hb, if_neg (by omega), if_neg (by omega), if_neg (by omega)]; rfl

theorem nanBits_nan (w : World) (k : FloatKind) (x y : Nat) : fv k (drawn w (.nanBits k x y)) = none := by
  rw [fv_none]; unfold drawn Question.cut
  cases k
  · exact single_nan _
  · exact double_nan _
theorem nanConv_nan (w : World) (k : FloatKind) (x : Nat) : fv k (drawn w (.nanConv k x)) = none := by
  rw [fv_none]; unfold drawn Question.cut
  cases k
  · exact single_nan _
  · exact double_nan _

theorem lt_single (t : Nat) : (t % 2) * 2 ^ 31 + 0x7f800000 + 1 + (t / 2) % (2 ^ 23 - 1) < 2 ^ 32 := by omega
theorem lt_double (t : Nat) : (t % 2) * 2 ^ 63 + 0x7ff0000000000000 + 1 + (t / 2) % (2 ^ 52 - 1) < 2 ^ 64 := by omega
theorem nanBits_lt (w : World) (k : FloatKind) (x y : Nat) : drawn w (.nanBits k x y) < 2 ^ k.format.width := by
  unfold drawn Question.cut
  cases k
  · exact lt_single _
  · exact lt_double _
theorem nanConv_lt (w : World) (k : FloatKind) (x : Nat) : drawn w (.nanConv k x) < 2 ^ k.format.width := by
  unfold drawn Question.cut
  cases k
  · exact lt_single _
  · exact lt_double _

/-- THE BITS THAT AN OPERATION GIVES IN A WORLD -/
def fbits (w : World) (op : BinOp) (k : FloatKind) (x y : Nat) : Nat := (floatBits op k x y).getD (drawn w (.nanBits k x y))
/-- how many draws it makes -/
def fcnt (op : BinOp) (k : FloatKind) (x y : Nat) : Nat := if (floatBits op k x y).isSome then 0 else 1

theorem fv_fbits (w : World) (op : BinOp) (k : FloatKind) (x y : Nat) : fv k (fbits w op k x y) = fop op k (fv k x) (fv k y) := by
  rw [← floatBits_fv]
  unfold fbits
  cases h : floatBits op k x y with
  | none => exact nanBits_nan w k x y
  | some r => exact fv_some.2 ⟨floatBits_notNaN h, rfl⟩
theorem fbits_lt (w : World) (op : BinOp) (k : FloatKind) (x y : Nat) : fbits w op k x y < 2 ^ k.format.width := by
  unfold fbits
  cases h : floatBits op k x y with
  | none => exact nanBits_lt w k x y
  | some r =>
    have := floatBits_wf h
    cases k
    · show r < 2 ^ 32; simpa [Lit.wf] using this
    · show r < 2 ^ 64; simpa [Lit.wf] using this

theorem run_choose {P : Program} {α : Type} (w : World) (q : Question) (g : Nat → Sem α) (h : q.forced = false) : (Sem.choose q g).run P w = (g (drawn w q)).run P (w.drewN 1) := by
  simp only [Sem.run, h]; rfl

def isArith : BinOp → Bool | .add | .sub | .mul | .quo => true | _ => false

theorem run_float_any {P : Program} (w : World) (op : BinOp) (ho : isArith op = true) (t : TypeId) (k : FloatKind) (x y : Nat) :
    (binOp op t (.float k x) (.float k y)).run P w = .ok (.float k (fbits w op k x y)) (w.drewN (fcnt op k x y)) := by
  unfold fbits fcnt
  cases h : floatBits op k x y with
  | some r => rw [run_float_arith w op t k x y r h]; rfl
  | none =>
    unfold floatBits at h
    cases op <;> simp only [isArith] at ho <;> first | (cases ho; done) | skip
    all_goals simp only at h; simp [binOp, Op.floatArith, h, choose, run_choose w (.nanBits k x y) _ rfl]
section
variable {P : Program} (w : World) (t : TypeId) (k : FloatKind) (x y : Nat)
@[go_sem] theorem run_fadd : (binOp .add t (.float k x) (.float k y)).run P w = .ok (.float k (fbits w .add k x y)) (w.drewN (fcnt .add k x y)) := run_float_any w .add rfl t k x y
@[go_sem] theorem run_fsub : (binOp .sub t (.float k x) (.float k y)).run P w = .ok (.float k (fbits w .sub k x y)) (w.drewN (fcnt .sub k x y)) := run_float_any w .sub rfl t k x y
@[go_sem] theorem run_fmul : (binOp .mul t (.float k x) (.float k y)).run P w = .ok (.float k (fbits w .mul k x y)) (w.drewN (fcnt .mul k x y)) := run_float_any w .mul rfl t k x y
@[go_sem] theorem run_fquo : (binOp .quo t (.float k x) (.float k y)).run P w = .ok (.float k (fbits w .quo k x y)) (w.drewN (fcnt .quo k x y)) := run_float_any w .quo rfl t k x y
@[go_sem] theorem unary_fneg (b : Nat) : Op.unary .neg (.float k b) = pure (.float k (Op.negFloat k b)) := rfl
end

/-! ### conversions from one width to another -/
/-- the bits that a conversion gives in a world -/
def cvbits (w : World) (s : FloatKind) (b : Nat) (d : FloatKind) : Nat :=
  (floatToFloatBits s b d).getD (match s.decode b with | .nan _ _ => drawn w (.nanConv d b) | _ => drawn w (.floatToFloat b))
def cvcnt (s : FloatKind) (b : Nat) (d : FloatKind) : Nat := if (floatToFloatBits s b d).isSome then 0 else 1

theorem run_floatToFloat_any {P : Program} (w : World) (s d : FloatKind) (b : Nat) :
    (Conv.floatToFloat s b d).run P w = .ok (.float d (cvbits w s b d)) (w.drewN (cvcnt s b d)) := by
  unfold cvbits cvcnt
  cases h : floatToFloatBits s b d with
  | some r => rw [run_floatToFloat w h]; rfl
  | none =>
    unfold floatToFloatBits at h
    split at h
    · cases h
    · rename_i ne
      split at h
      · rename_i he; simp [Conv.floatToFloat, ne, he, choose, run_choose w (.nanConv d b) _ rfl]
      · cases h
      · rename_i he
        split at h
        · rename_i hi; simp [Conv.floatToFloat, ne, he, hi, choose, run_choose w (.floatToFloat b) _ rfl]
        · cases h

section
variable {P : Program} (w : World)
@[go_sem] theorem run_fconv (src dst : TypeId) (s d : FloatKind) (b : Nat) (hs : (P.underlying src).isSome = true) (hd : P.underlying dst = some (.float d)) :
    (convert src dst (.float s b)).run P w = .ok (.float d (cvbits w s b d)) (w.drewN (cvcnt s b d)) := by
  obtain ⟨u, hs'⟩ := Option.isSome_iff_exists.1 hs
  cases u <;> simp [convert, run_underlying hs', run_underlying hd, run_floatToFloat_any]
@[go_sem] theorem run_cconv (src dst : TypeId) (s d : FloatKind) (a b : Nat) (hs : (P.underlying src).isSome = true) (hd : P.underlying dst = some (.complex d)) :
    (convert src dst (.complex s a b)).run P w = .ok (.complex d (cvbits w s a d) (cvbits (w.drewN (cvcnt s a d)) s b d)) (w.drewN (cvcnt s a d + cvcnt s b d)) := by
  obtain ⟨u, hs'⟩ := Option.isSome_iff_exists.1 hs
  cases u <;> simp [convert, run_underlying hs', run_underlying hd, Conv.complexToComplex, run_floatToFloat_any]
end

theorem read_bounds {f : Format} (he : 2 ≤ f.exponentBits) {x : Nat} {s : Bool} {m : Nat} {p : Int} (h : f.read x = .number s m p) : f.leastPlace ≤ p ∧ m < 2 ^ (f.fractionBits + 1) ∧ p ≤ f.leastPlace + (2 ^ f.exponentBits - 3 : Nat) := by
  have hb := bin_pos f
  have h4 : 2 ^ 2 ≤ 2 ^ f.exponentBits := Nat.pow_le_pow_right (by omega) he
  unfold Format.read at h
  dsimp only at h
  split at h
  · rename_i hlt
    cases h
    refine ⟨Int.le_refl _, ?_, by omega⟩
    rw [Nat.pow_succ]; unfold Format.binade at hlt; omega
  · split at h
    · rename_i hlt
      cases h
      generalize x % f.signWeight = R at *
      have hRm := Nat.mod_lt R hb
      have hdhi : R / f.binade < 2 ^ f.exponentBits - 1 := Nat.div_lt_of_lt_mul (by rw [Nat.mul_comm]; exact hlt)
      refine ⟨by omega, ?_, by omega⟩
      rw [Nat.pow_succ]; unfold Format.binade at *; omega
    · split at h <;> cases h

theorem rep_of_read {f : Format} (he : 2 ≤ f.exponentBits) {x : Nat} {s : Bool} {m : Nat} {p : Int} (h : f.read x = .number s m p) : Rep f (unitsOf f m p) := by
  obtain ⟨h1, h2, h3⟩ := read_bounds he h
  exact ⟨m, (p - f.leastPlace).toNat, rfl, h2, by omega⟩

theorem sc_rep {f : Format} (he : 2 ≤ f.exponentBits) {x : Nat} {a : Int} (h : sc f x = some a) : Rep f a.natAbs := by
  obtain ⟨s, m, p, e, _, rfl⟩ := sc_read h
  rw [sg_natAbs]; exact rep_of_read he e

theorem single_place : single.leastPlace = -149 := by decide
theorem double_place : double.leastPlace = -1074 := by decide

/-- a single is a double -/
theorem widen_exact {x : Nat} {s : Bool} {m : Nat} {p : Int} (h : single.read x = .number s m p) :
    double.write (.number s m p) = double.word s (rungOf double (m * 2 ^ (p + 1074).toNat)) ∧ sc double (double.word s (rungOf double (m * 2 ^ (p + 1074).toNat))) = some (sg s (m * 2 ^ (p + 1074).toNat)) := by
  obtain ⟨h1, h2, h3⟩ := read_bounds (by decide) h
  rw [single_place] at h1 h3
  have e : (2 ^ single.exponentBits - 3 : Nat) = 253 := by decide
  rw [e] at h3
  have e2 : single.fractionBits + 1 = 24 := rfl
  rw [e2] at h2
  refine write_exact (by decide) ?_ ?_
  · rw [double_place]
    have e3 : (p - -1074 : Int).toNat = (p + 1074).toNat := by omega
    have e4 : (-1074 - p : Int).toNat = 0 := by omega
    rw [e3, e4]; simp
  · refine ⟨m, (p + 1074).toNat, rfl, ?_, ?_⟩
    · have : (2 : Nat) ^ 24 ≤ 2 ^ (double.fractionBits + 1) := by decide
      omega
    · have : (2 ^ double.exponentBits - 3 : Nat) = 2045 := by decide
      omega

theorem sc_notNaN {f : Format} {x : Nat} {a : Int} (h : sc f x = some a) : (f.read x).isNaN = false := by
  obtain ⟨s, m, p, e, _, _⟩ := sc_read h; rw [e]; rfl
theorem sc_notInf {f : Format} {x : Nat} {a : Int} (h : sc f x = some a) : (f.read x).isInfinity = false := by
  obtain ⟨s, m, p, e, _, _⟩ := sc_read h; rw [e]; rfl

/-- a single as a double -/
def widen (o : Option Nat) : Option Nat := o.bind fun x => floatToFloatBits .f32 x .f64

theorem fv_word {k : FloatKind} {s : Bool} {r : Nat} (h : r ≤ k.format.infRung) : fv k (k.format.word s r) = some (k.format.word s r) := fv_some.2 ⟨read_word_notNaN _ s h, rfl⟩

theorem fv_widen (w : World) (x : Nat) : fv .f64 (cvbits w .f32 x .f64) = widen (fv .f32 x) := by
  unfold cvbits
  cases hd : single.read x with
  | nan s t =>
    have h1 : fv .f32 x = none := fv_none.2 (by show (single.read x).isNaN = true; rw [hd]; rfl)
    have h2 : floatToFloatBits .f32 x .f64 = none := by unfold floatToFloatBits; simp [FloatKind.decode, FloatKind.format, hd]
    rw [h1, h2]
    have : FloatKind.f32.decode x = .nan s t := hd
    simp only [this, Option.getD_none]
    exact nanConv_nan w .f64 x
  | infinity s =>
    have h1 : fv .f32 x = some x := fv_some.2 ⟨by show (single.read x).isNaN = false; rw [hd]; rfl, rfl⟩
    have h2 : floatToFloatBits .f32 x .f64 = some (double.word s double.infRung) := by unfold floatToFloatBits; simp [FloatKind.decode, FloatKind.encode, FloatKind.format, hd, Format.write]
    rw [h1]; show _ = floatToFloatBits .f32 x .f64; rw [h2]
    exact fv_word (k := .f64) (Nat.le_refl _)
  | number s m p =>
    have h1 : fv .f32 x = some x := fv_some.2 ⟨by show (single.read x).isNaN = false; rw [hd]; rfl, rfl⟩
    obtain ⟨w1, w2⟩ := widen_exact hd
    have h2 : floatToFloatBits .f32 x .f64 = some (double.word s (rungOf double (m * 2 ^ (p + 1074).toNat))) := by
      unfold floatToFloatBits
      simp only [FloatKind.decode, FloatKind.encode, FloatKind.format, hd, w1, sc_notInf w2]
      simp
    rw [h1]; show _ = floatToFloatBits .f32 x .f64; rw [h2]
    exact fv_some.2 ⟨sc_notNaN w2, rfl⟩

/-! ### comparisons -/
def ford (k : FloatKind) : Option Nat → Option Nat → Option Ordering
  | some x, some y => k.format.order x y
  | _, _ => none
theorem order_fv (k : FloatKind) (x y : Nat) : k.format.order x y = ford k (fv k x) (fv k y) := by
  by_cases hx : (k.format.read x).isNaN = true
  · rw [fv_none.2 hx]; exact order_nan_left hx
  · have e1 : fv k x = some x := fv_some.2 ⟨by simpa using hx, rfl⟩
    by_cases hy : (k.format.read y).isNaN = true
    · rw [fv_none.2 hy, e1]; exact order_nan_right hy
    · have e2 : fv k y = some y := fv_some.2 ⟨by simpa using hy, rfl⟩
      rw [e1, e2]; rfl
theorem order_self {k : FloatKind} {x : Nat} (h : (k.format.read x).isNaN = false) : k.format.order x x = some .eq := by
  unfold Format.order
  cases e : k.format.read x with
  | nan s t => rw [e] at h; cases h
  | infinity s => simp [Datum.order]
  | number s m p => simp [Datum.order]
theorem order_self_nan {k : FloatKind} {x : Nat} : (k.format.order x x == some .eq) = (fv k x).isSome := by
  by_cases h : (k.format.read x).isNaN = true
  · rw [fv_none.2 h]; unfold Format.order; rw [order_nan_left h]; rfl
  · have h' : (k.format.read x).isNaN = false := by simpa using h
    rw [order_self h', (fv_some (c := x)).2 ⟨h', rfl⟩]; rfl

theorem order_fbits (w : World) (op : BinOp) (k : FloatKind) (x y z : Nat) : k.format.order (fbits w op k x y) z = ford k (fop op k (fv k x) (fv k y)) (fv k z) := by rw [order_fv, fv_fbits]

section
variable {P : Program} (w : World) (a : Addr) (m : Mode)
@[go_sem] theorem run_store_float (k : FloatKind) (b : Nat) : (store a (.float k b) m).run P w = stored P w a (.float k b) m := run_store P w a _ m rfl
@[go_sem] theorem run_store_complex (k : FloatKind) (b c : Nat) : (store a (.complex k b c) m).run P w = stored P w a (.complex k b c) m := run_store P w a _ m rfl
end
attribute [irreducible] fbits fcnt cvbits cvcnt
end Go.Proofs.Ytbjllfnjecggfaa.Fl
