/- Plain laws: a text cut at single spaces; its fields. -/
import Derived.Lib.SplitLaws
import Derived.Test.YtpdpkgpjgockaaaDoorOn
namespace Go.Proofs.YtpdpkgpjgockaaaDoor
open Go.Lib

/-- the pieces between spaces -/
def cut : List UInt8 → List (List UInt8)
  | [] => [[]]
  | b :: l => if b = 32 then [] :: cut l else match cut l with
    | p :: ps => (b :: p) :: ps
    | [] => [[b]]
theorem splitK_cut : ∀ s : List UInt8, splitK [32] 0 (count s [32]) s = cut s
  | [] => rfl
  | b :: l => by
    have ih := splitK_cut l
    by_cases hb : b = 32
    · subst hb
      rw [count_cons_eq, Nat.add_comm]
      unfold splitK cut
      have h0 : index (32 :: l) [32] = 0 := by unfold index; simp
      rw [h0, if_neg (by decide), if_pos rfl, show (0 : Int).toNat = 0 from rfl]
      rw [← ih]
      rfl
    · rw [count_cons_ne _ _ _ hb]
      unfold cut
      rw [if_neg hb]
      rcases index_spec l [32] with ⟨h1, _⟩ | ⟨i, h1, h2, _⟩
      · rw [count_miss h1] at ih ⊢
        rw [← ih]
        rfl
      · rw [count_hit (by simp) h1, Nat.add_comm] at ih ⊢
        have hi : index (b :: l) [32] = ((i + 1 : Nat) : Int) := by
          unfold index
          rw [if_neg (by simpa using fun e => hb e.symm), h1, if_neg (by simp)]
          omega
        unfold splitK at ih ⊢
        rw [h1, if_neg (by simp)] at ih
        rw [hi, if_neg (by simp; omega), ← ih]
        simp only [Int.toNat_natCast, List.length_singleton, Nat.add_zero]
        rfl
def sp1 : ByteArray := ⟨#[32]⟩
/-- the pieces of a text -/
def pcs (s : ByteArray) : List ByteArray := splitB sp1 0 (countB s sp1) s
theorem pcs_len (s : ByteArray) : (pcs s).length = countB s sp1 + 1 := splitB_all sp1 (by decide) 0 _ s rfl
theorem pcs_cut (s : ByteArray) : (pcs s).map (·.data.toList) = cut s.data.toList := by
  unfold pcs
  rw [splitB_data]
  exact splitK_cut s.data.toList
def ne0 (p : ByteArray) : Bool := decide (p.size ≠ 0)
def neL (p : List UInt8) : Bool := !p.isEmpty
theorem ne0_neL (p : ByteArray) : ne0 p = neL p.data.toList := by
  unfold ne0 neL
  have : p.data.toList.length = p.size := by simp
  cases h : p.data.toList with
  | nil => rw [h] at this; simp at this; simp [← this]
  | cons c l => rw [h] at this; simp at this; simp [← this]
/-- the fields of a text -/
def flds (s : ByteArray) : List ByteArray := (pcs s).filter ne0
theorem map_filter {α β : Type} (f : α → β) (p : α → Bool) (q : β → Bool) (h : ∀ a, p a = q (f a)) (l : List α) : (l.filter p).map f = (l.map f).filter q := by
  induction l with
  | nil => rfl
  | cons a l ih =>
    rw [List.map_cons, List.filter_cons, List.filter_cons, h a]
    cases q (f a)
    · exact ih
    · simp [ih]
theorem flds_cut (s : ByteArray) : (flds s).map (·.data.toList) = (cut s.data.toList).filter neL := by
  unfold flds
  rw [map_filter (·.data.toList) ne0 neL ne0_neL, pcs_cut]
theorem ba_inj {a b : ByteArray} (h : a.data.toList = b.data.toList) : a = b := by
  cases a; cases b
  congr
  exact Array.toList_inj.1 h
theorem map_ba : ∀ {a b : List ByteArray}, a.map (·.data.toList) = b.map (·.data.toList) → a = b
  | [], [], _ => rfl
  | [], _ :: _, h => by simp at h
  | _ :: _, [], h => by simp at h
  | x :: a, y :: b, h => by
    rw [List.map_cons, List.map_cons] at h
    injection h with h1 h2
    rw [ba_inj h1, map_ba h2]
/-- printable -/
def pr (c : UInt8) : Bool := decide (32 ≤ c.toNat ∧ c.toNat ≤ 126)
/-- WHAT SplitFields ANSWERS -/
def sfF (s : ByteArray) : List ByteArray × Bool := if s.size ≤ 600 ∧ s.data.toList.all pr = true ∧ (flds s).length ≤ 24 then (flds s, true) else ([], false)
theorem sf_long {s : ByteArray} (h : 600 < s.size) : sfF s = ([], false) := by unfold sfF; rw [if_neg (by omega)]
theorem sf_bad {s : ByteArray} (h : s.data.toList.all pr = false) : sfF s = ([], false) := by unfold sfF; rw [if_neg (by rw [h]; simp)]
theorem sf_many {s : ByteArray} (h : 24 < (flds s).length) : sfF s = ([], false) := by unfold sfF; rw [if_neg (by omega)]
theorem sf_yes {s : ByteArray} (h1 : s.size ≤ 600) (h2 : s.data.toList.all pr = true) (h3 : (flds s).length ≤ 24) : sfF s = (flds s, true) := by unfold sfF; rw [if_pos ⟨h1, h2, h3⟩]
theorem take_filter {P : List ByteArray} {j : Nat} (h : j < P.length) : (P.take (j + 1)).filter ne0 = (P.take j).filter ne0 ++ (if ne0 (P.getD j ByteArray.empty) = true then [P.getD j ByteArray.empty] else []) := by
  rw [List.take_add_one, List.getElem?_eq_getElem h, List.filter_append]
  congr 1
  simp [List.getD, h, List.filter_cons]
/-- the fields from a place on, one of which may be under way -/
def gF (s : ByteArray) : Nat → Nat → Nat → List ByteArray
  | 0, b, i => if b < i then [s.extract b i] else []
  | d + 1, b, i => if s.data.toList.getD i 0 = 32 then (if b < i then [s.extract b i] else []) ++ gF s d (i + 1) (i + 1) else gF s d b (i + 1)
def glue (x : List UInt8) : List (List UInt8) → List (List UInt8)
  | p :: ps => (x ++ p) :: ps
  | [] => [x]
theorem glue_cons (x p : List UInt8) (ps : List (List UInt8)) : glue x (p :: ps) = (x ++ p) :: ps := rfl
theorem cut_ne (l : List UInt8) : ∃ p ps, cut l = p :: ps := by
  cases l with
  | nil => exact ⟨_, _, rfl⟩
  | cons b l =>
    unfold cut
    split
    · exact ⟨_, _, rfl⟩
    · split
      · exact ⟨_, _, rfl⟩
      · exact ⟨_, _, rfl⟩
theorem extract_list (s : ByteArray) (b i : Nat) : (s.extract b i).data.toList = (s.data.toList.take i).drop b := by
  rw [extract_data, List.drop_take]
theorem gF_cut (s : ByteArray) : ∀ d b i, b ≤ i → i + d = s.size → (gF s d b i).map (·.data.toList) = (glue ((s.data.toList.take i).drop b) (cut (s.data.toList.drop i))).filter neL := by
  have hsz : s.data.toList.length = s.size := by simp
  have one : ∀ b i, b ≤ i → i ≤ s.size → (if b < i then [s.extract b i] else ([] : List ByteArray)).map (·.data.toList) = [((s.data.toList.take i).drop b)].filter neL := by
    intro b i hb hi
    have hl : ((s.data.toList.take i).drop b).length = i - b := by rw [List.length_drop, List.length_take, hsz]; omega
    by_cases h : b < i
    · rw [if_pos h, List.map_cons, List.map_nil, extract_list, List.filter_cons]
      have : neL ((s.data.toList.take i).drop b) = true := by
        unfold neL
        cases hc : (s.data.toList.take i).drop b with
        | nil => rw [hc] at hl; simp at hl; omega
        | cons c l => rfl
      rw [this]; rfl
    · rw [if_neg h, List.eq_nil_of_length_eq_zero (l := (s.data.toList.take i).drop b) (by omega)]
      rfl
  intro d
  induction d with
  | zero =>
    intro b i hb hi
    have hnil : s.data.toList.drop i = [] := List.drop_eq_nil_of_le (by omega)
    rw [hnil]
    unfold gF cut
    rw [glue_cons, List.append_nil]
    exact one b i hb (by omega)
  | succ d ih =>
    intro b i hb hi
    have hlt : i < s.data.toList.length := by omega
    have hd : s.data.toList.drop i = s.data.toList.getD i 0 :: s.data.toList.drop (i + 1) := by
      rw [List.drop_eq_getElem_cons hlt, List.getD_eq_getElem?_getD, List.getElem?_eq_getElem hlt]; rfl
    have ht : s.data.toList.take (i + 1) = s.data.toList.take i ++ [s.data.toList.getD i 0] := by
      rw [List.take_add_one, List.getElem?_eq_getElem hlt, List.getD_eq_getElem?_getD, List.getElem?_eq_getElem hlt]; rfl
    rw [hd]
    unfold gF cut
    obtain ⟨p, ps, hc⟩ := cut_ne (s.data.toList.drop (i + 1))
    generalize s.data.toList.getD i 0 = c at *
    by_cases h : c = 32
    · rw [if_pos h, if_pos h, List.map_append, one b i hb (by omega), ih (i + 1) (i + 1) (Nat.le_refl _) (by omega)]
      have e0 : (s.data.toList.take (i + 1)).drop (i + 1) = [] := List.drop_eq_nil_of_le (by rw [List.length_take]; omega)
      rw [e0, hc]
      rw [glue_cons, glue_cons, List.append_nil, List.nil_append, ← List.filter_append]
      rfl
    · rw [if_neg h, if_neg h, ih b (i + 1) (by omega) (by omega), hc]
      have hb2 : b ≤ (s.data.toList.take i).length := by rw [List.length_take]; omega
      rw [ht, List.drop_append_of_le_length hb2, glue_cons, List.append_assoc]
      rfl
theorem gF_flds (s : ByteArray) : gF s s.size 0 0 = flds s := by
  apply map_ba
  rw [gF_cut s s.size 0 0 (Nat.le_refl _) (by omega), flds_cut]
  obtain ⟨p, ps, hc⟩ := cut_ne s.data.toList
  rw [List.drop_zero, List.drop_zero, List.take_zero, hc]
  rfl
end Go.Proofs.YtpdpkgpjgockaaaDoor
