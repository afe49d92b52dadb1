/- Plain laws: equality and marks of rows of texts, as the printed functions have them. Rows of texts, mine and the print's. -/
import Derived.Test.YtpdpkgpjgockaaaDoorYb
import Derived.Test.YtpdpkgpjgockaaaDoorYi
namespace Go.Proofs.YtpdpkgpjgockaaaDoor
open Go.RowKit Go.Proofs.YtpdpkgpjgockaaaDoorW.PrintWords Go.Proofs.YtpdpkgpjgockaaaDoorW.PrintLast Go.Proofs.YtpdpkgpjgockaaaDoorW.PrintMore Go.Proofs.YtpdpkgpjgockaaaDoor.PFnExactSplitFields

theorem r_of {w : World} {B : Nat} {v : Value} {xs : List ByteArray} (h : Os w B v xs) : Kd.R Kd.string 9 w B (fun _ => True) v xs := by
  refine ⟨fun _ _ => trivial, xs.map Value.string, h, by show (xs.map Value.string).length = xs.length * 1; simp, fun j p hp => ?_⟩
  show ((xs.map Value.string).drop (j * 1)).take 1 = [Value.string p]
  have hj := (List.getElem?_eq_some_iff.1 hp).1
  have e : xs[j] = p := (List.getElem?_eq_some_iff.1 hp).2
  rw [Nat.mul_one, List.drop_eq_getElem_cons (by simpa using hj)]
  simp [e]
theorem eq_l0 (xs : List ByteArray) (hx : xs.length ≤ 1048576) : ∀ d k j, j + d = xs.length → d + 1 ≤ k → laws_eqStringS.l0 k xs xs (j : Int) = some true := by
  intro d
  induction d with
  | zero =>
    intro k j hj hk
    obtain ⟨k, rfl⟩ : ∃ m, k = m + 1 := ⟨k - 1, by omega⟩
    simp only [laws_eqStringS.l0]
    rw [if_neg (by omega)]
  | succ d ih =>
    intro k j hj hk
    obtain ⟨k, rfl⟩ : ∃ m, k = m + 1 := ⟨k - 1, by omega⟩
    simp only [laws_eqStringS.l0]
    rw [if_pos (by omega), if_pos (by omega), if_pos (by omega), if_pos trivial, wrap_up (by omega)]
    exact ih k (j + 1) (by omega) (by omega)
theorem eq_f (xs : List ByteArray) (hx : xs.length ≤ 1048576) : laws_eqStringS.f (xs.length + 1) xs xs = some true := by
  unfold laws_eqStringS.f
  rw [if_pos rfl]
  exact eq_l0 xs hx xs.length _ 0 (by omega) (by omega)
def mkT (a : Int) : ByteArray := (laws_markText.f 4 a).getD ByteArray.empty
theorem mk_all : ∀ a : Fin 101, (laws_markText.f 4 ((a.val : Nat) : Int)).isSome = true := by decide +kernel
theorem mk_f {a : Nat} (h : a ≤ 100) {k : Nat} (hk : 4 ≤ k) : laws_markText.f k (a : Int) = some (mkT a) := by
  have h1 := mk_all ⟨a, by omega⟩
  obtain ⟨r, hr⟩ := Option.isSome_iff_exists.1 h1
  have hr' : laws_markText.f 4 (a : Int) = some r := hr
  have : mkT a = r := by unfold mkT; rw [hr']; rfl
  rw [this]
  exact at_rounds (laws_markText.mono (a : Int)) hk hr'
/-- the first j are marked -/
def Mk (xs : List ByteArray) (j : Nat) : Prop := ∀ i, i < j → xs[i]? = some (mkT ((i + 1 : Nat) : Int))
theorem mark_l0 (n : Nat) (hn : n ≤ 24) : ∀ d k j (xs : List ByteArray), xs.length = n → j + d = n → Mk xs j → d + 5 ≤ k → ∃ ys, ys.length = n ∧ Mk ys n ∧ laws_markStringS.l0 k xs ((j + 1 : Nat) : Int) (j : Int) = some (((n + 1 : Nat) : Int), ys) := by
  intro d
  induction d with
  | zero =>
    intro k j xs hl hj hm hk
    obtain ⟨k, rfl⟩ : ∃ m, k = m + 1 := ⟨k - 1, by omega⟩
    refine ⟨xs, hl, by rw [show n = j by omega]; exact hm, ?_⟩
    simp only [laws_markStringS.l0]
    rw [if_neg (by omega), show j = n by omega]
  | succ d ih =>
    intro k j xs hl hj hm hk
    obtain ⟨k, rfl⟩ : ∃ m, k = m + 1 := ⟨k - 1, by omega⟩
    simp only [laws_markStringS.l0]
    rw [if_pos (by omega), mk_f (by omega) (by omega), Option.bind_some, if_pos (by omega), wrap_up (by omega), wrap_up (by omega), show (j : Int).toNat = j by omega]
    refine ih k (j + 1) _ (by rw [List.length_set]; exact hl) (by omega) ?_ (by omega)
    intro i hi
    by_cases he : i = j
    · subst he
      rw [List.getElem?_set_self (by omega)]
    · rw [List.getElem?_set_ne (fun e => he e.symm)]
      exact hm i (by omega)
theorem mark_f (xs : List ByteArray) (hn : xs.length ≤ 24) : ∃ ys, ys.length = xs.length ∧ Mk ys xs.length ∧ laws_markStringS.f 100 xs 1 = some (((xs.length + 1 : Nat) : Int), ys) := by
  obtain ⟨ys, h1, h2, h3⟩ := mark_l0 xs.length hn xs.length 100 0 xs rfl (by omega) (fun i hi => by omega) (by omega)
  exact ⟨ys, h1, h2, h3⟩
theorem held_l0 (n : Nat) (hn : n ≤ 24) (ys : List ByteArray) (hl : ys.length = n) (hm : Mk ys n) : ∀ d k j, j + d = n → d + 5 ≤ k → laws_heldStringS.l0 k ys ((j + 1 : Nat) : Int) (j : Int) = some ((n + 1 : Nat) : Int) := by
  intro d
  induction d with
  | zero =>
    intro k j hj hk
    obtain ⟨k, rfl⟩ : ∃ m, k = m + 1 := ⟨k - 1, by omega⟩
    simp only [laws_heldStringS.l0]
    rw [if_neg (by omega), show j = n by omega]
  | succ d ih =>
    intro k j hj hk
    obtain ⟨k, rfl⟩ : ∃ m, k = m + 1 := ⟨k - 1, by omega⟩
    have hr : rdOf ByteArray.empty ys (j : Int) = mkT ((j + 1 : Nat) : Int) := by
      have := hm j (by omega)
      simp [rdOf, this]
    simp only [laws_heldStringS.l0]
    rw [if_pos (by omega), if_pos (by omega), mk_f (by omega) (by omega), Option.bind_some, hr, if_pos rfl, wrap_up (by omega), wrap_up (by omega)]
    exact ih k (j + 1) (by omega) (by omega)
theorem held_f (ys : List ByteArray) (n : Nat) (hl : ys.length = n) (hn : n ≤ 24) (hm : Mk ys n) : laws_heldStringS.f 100 ys 1 = some ((n + 1 : Nat) : Int) := held_l0 n hn ys hl hm n 100 0 (by omega) (by omega)
end Go.Proofs.YtpdpkgpjgockaaaDoor
