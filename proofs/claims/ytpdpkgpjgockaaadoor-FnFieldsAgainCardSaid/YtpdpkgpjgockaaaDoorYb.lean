/- Plain laws: what the printed functions answer: the reference's SplitFields; equality, marks. -/
import Derived.Test.YtpdpkgpjgockaaaDoorPFnExactSplitFieldsx3
import Derived.Test.YtpdpkgpjgockaaaDoorYa
namespace Go.Proofs.YtpdpkgpjgockaaaDoor
open Go.RowKit Go.Proofs.YtpdpkgpjgockaaaDoorW.PrintWords Go.Proofs.YtpdpkgpjgockaaaDoorW.PrintLast Go.Proofs.YtpdpkgpjgockaaaDoorW.PrintMore Go.Proofs.YtpdpkgpjgockaaaDoor.PFnExactSplitFields

theorem wrap_up {i : Nat} (h : i ≤ 1048576) : wrap64 ((i : Int) + 1) = ((i + 1 : Nat) : Int) := by unfold wrap64; omega
theorem bt_list (s : ByteArray) {i : Nat} (h : i < s.size) : bt s (i : Int) = ((s.data.toList.getD i 0).toNat : Int) := by
  have h1 : (i : Int).toNat < s.size := by simpa using h
  rw [← bt_at s (i : Int) h1]
  congr 2
  rw [List.getD_eq_getElem?_getD, List.getElem?_eq_getElem (by simpa using h)]
  rfl
theorem is32 (c : UInt8) : ((c.toNat : Int) != 32) = !decide (c = 32) := by
  by_cases h : c = 32
  · subst h; rfl
  · rw [decide_eq_false h]
    have : c.toNat ≠ 32 := fun e => h (UInt8.toNat_inj.1 e)
    simp; omega
/-- the answer, from a place on -/
def fin (s : ByteArray) (out : List ByteArray) (i : Nat) : List ByteArray × Bool := if (s.data.toList.drop i).all pr = true then (if out.length > 24 then ([], false) else (out, true)) else ([], false)
theorem sS_end (s : ByteArray) (k : Nat) (out : List ByteArray) (b : Int) : spec_SplitFields.l0 (k + 1) s out b ((s.size + 1 : Nat) : Int) = some (if out.length > 24 then ([], false) else (out, true)) := by
  simp only [spec_SplitFields.l0]
  rw [if_neg (by omega)]
  by_cases h : out.length > 24
  · rw [if_pos (by omega), if_pos h]
  · rw [if_neg (by omega), if_neg h]
theorem sS_l0 (s : ByteArray) (hs : s.size ≤ 600) : ∀ d k b i (out : List ByteArray), b ≤ i → i + d = s.size → out.length ≤ i → 3 * d + 4 ≤ k → spec_SplitFields.l0 k s out (b : Int) (i : Int) = some (fin s (out ++ gF s d b i) i) := by
  intro d
  induction d with
  | zero =>
    intro k b i out hb hi ho hk
    obtain ⟨k, rfl⟩ : ∃ m, k = m + 4 := ⟨k - 4, by omega⟩
    have hf : fin s (out ++ gF s 0 b i) i = if (out ++ gF s 0 b i).length > 24 then ([], false) else (out ++ gF s 0 b i, true) := by
      unfold fin
      have : s.data.toList.drop i = [] := List.drop_eq_nil_of_le (by simp; omega)
      rw [this]; rfl
    have hw : wrap64 ((i : Int) + 1) = ((s.size + 1 : Nat) : Int) := by rw [wrap_up (by omega)]; congr 1; omega
    rw [hf]
    unfold gF
    rw [show k + 4 = (k + 3) + 1 from rfl]
    simp only [spec_SplitFields.l0]
    rw [if_pos (by omega), if_neg (by omega)]
    simp only [spec_SplitFields.j1]
    rw [if_neg (by simp), if_neg (by omega)]
    simp only [spec_SplitFields.j2]
    rw [if_neg (by simp), hw]
    by_cases h : b < i
    · rw [if_pos (by omega), if_pos (by omega), if_pos (by omega), if_pos (by omega), if_pos (by omega), if_pos h, sS_end s k _ _]
      rfl
    · rw [if_neg (by omega), if_neg h, List.append_nil, sS_end s k _ _]
  | succ d ih =>
    intro k b i out hb hi ho hk
    obtain ⟨k, rfl⟩ : ∃ m, k = m + 3 := ⟨k - 3, by omega⟩
    have hlt : i < s.size := by omega
    have hlt2 : i < s.data.toList.length := by simpa using hlt
    have hd : s.data.toList.drop i = s.data.toList.getD i 0 :: s.data.toList.drop (i + 1) := by
      rw [List.drop_eq_getElem_cons hlt2, List.getD_eq_getElem?_getD, List.getElem?_eq_getElem hlt2]; rfl
    have hbt := bt_list s hlt
    have hfin : ∀ o, fin s o i = if pr (s.data.toList.getD i 0) = true then fin s o (i + 1) else ([], false) := by
      intro o
      unfold fin
      rw [hd, List.all_cons]
      cases pr (s.data.toList.getD i 0) <;> simp
    rw [hfin]
    unfold gF
    generalize s.data.toList.getD i 0 = c at *
    rw [show k + 3 = (k + 2) + 1 from rfl]
    simp only [spec_SplitFields.l0]
    rw [if_pos (by omega), if_pos (by omega), if_pos (by omega), hbt]
    by_cases h32 : (c.toNat : Int) < 32
    · have hp : pr c = false := by unfold pr; exact decide_eq_false (by omega)
      rw [if_pos h32, hp, if_neg (by simp)]
      simp only [spec_SplitFields.j1]
      rfl
    · rw [if_neg h32]
      simp only [spec_SplitFields.j1]
      by_cases h126 : (c.toNat : Int) > 126
      · have hp : pr c = false := by unfold pr; exact decide_eq_false (by omega)
        rw [decide_eq_true h126, if_pos rfl, hp, if_neg (by simp)]
      · have hp : pr c = true := by unfold pr; exact decide_eq_true (by omega)
        rw [decide_eq_false h126, if_neg (by simp), hp, if_pos rfl, if_pos (by omega), if_pos (by omega), hbt, is32]
        simp only [spec_SplitFields.j2]
        rw [wrap_up (by omega)]
        by_cases hc : c = 32
        · rw [decide_eq_true hc, if_neg (by simp), if_pos hc]
          by_cases h : b < i
          · rw [if_pos (by omega), if_pos (by omega), if_pos (by omega), if_pos (by omega), if_pos (by omega), if_pos h, ih k (i + 1) (i + 1) _ (Nat.le_refl _) (by omega) (by simp; omega) (by omega), List.append_assoc]
            rfl
          · rw [if_neg (by omega), if_neg h, ih k (i + 1) (i + 1) _ (Nat.le_refl _) (by omega) (by omega) (by omega), List.nil_append]
        · rw [decide_eq_false hc, if_pos (by simp), if_neg hc, ih k b (i + 1) _ (by omega) (by omega) (by omega) (by omega)]
theorem sS_f (s : ByteArray) : ∃ k, spec_SplitFields.f k s = some (sfF s) := by
  refine ⟨3 * s.size + 4, ?_⟩
  unfold spec_SplitFields.f
  rw [Option.bind_some]
  by_cases h : 600 < s.size
  · rw [if_pos (by omega), sf_long h]
  · rw [if_neg (by omega)]
    have := sS_l0 s (by omega) s.size (3 * s.size + 4) 0 0 [] (Nat.le_refl _) (by omega) (by simp) (by omega)
    rw [show ((0 : Nat) : Int) = 0 from rfl] at this
    rw [this, gF_flds, List.nil_append]
    unfold fin sfF
    rw [List.drop_zero]
    congr 1
    by_cases h1 : s.data.toList.all pr = true
    · rw [if_pos h1]
      by_cases h2 : (flds s).length ≤ 24
      · rw [if_neg (by omega), if_pos ⟨by omega, h1, h2⟩]
      · rw [if_pos (by omega), if_neg (fun h => h2 h.2.2)]
    · rw [if_neg h1, if_neg (fun h => h1 h.2.1)]
end Go.Proofs.YtpdpkgpjgockaaaDoor
