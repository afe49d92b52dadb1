/- Walk: SplitFields, the program's. -/
import Derived.Test.YtpdpkgpjgockaaaDoorYa
import Derived.Test.YtpdpkgpjgockaaaDoorYs
import Derived.Test.YtpdpkgpjgockaaaDoorApT
namespace Go.Proofs.YtpdpkgpjgockaaaDoor
open Go.RowKit

/-- a row of texts of the call's own -/
def Os (w : World) (B : Nat) (v : Value) (xs : List ByteArray) : Prop := w.ownsRow B 9 1 v xs.length (xs.map Value.string)
theorem infoS : (Tryd.prog.info? 9).map (fun i => (i.zero, i.size, i.bytes)) = some (some (.string ByteArray.empty), 1, 16) := by kernel_rfl
theorem info_partsS {o : Option TypeInfo} {z : Option Value} {n b : Nat} (h : o.map (fun i => (i.zero, i.size, i.bytes)) = some (z, n, b)) : ∃ i, o = some i ∧ i.zero = z ∧ i.size = n ∧ i.bytes = b := by
  obtain ⟨i, h1, h2⟩ := Option.map_eq_some_iff.1 h
  simp only [Prod.mk.injEq] at h2
  exact ⟨i, h1, h2.1, h2.2.1, h2.2.2⟩
theorem os_snoc {w1 : World} {B : Nat} {v' : Value} {xs : List ByteArray} {x : ByteArray} (h : w1.ownsRow B 9 1 v' (xs.length + 1) (xs.map Value.string ++ [.string x])) : Os w1 B v' (xs ++ [x]) := by
  unfold Os; rw [List.length_append, List.map_append]; exact h
theorem cells_str (w : World) (x : ByteArray) (e : Nat) : ∀ j u, ([.string x] : List Value)[j]? = some u → (w.alloc (.cells #[.string x] e)).cell? ((⟨w.heap.size, 0, none⟩ : Addr).add j) = some u := by
  intro j u hu
  cases j with
  | zero => simp at hu; subst hu; rw [Addr.add_lit]; simp
  | succ j => simp at hu
theorem pr_all_snoc (l : List UInt8) (c : UInt8) : (l ++ [c]).all pr = (l.all pr && pr c) := by simp
theorem pr_no {s : ByteArray} {j : Nat} (h : j < s.size) (hc : pr s[j] = false) : s.data.toList.all pr = false := by
  rw [List.all_eq_false]
  refine ⟨s[j], ?_, by rw [hc]; simp⟩
  have : s.data.toList[j]? = some s[j] := by rw [List.getElem?_eq_getElem (by simpa using h)]; rfl
  exact List.mem_of_getElem? this
theorem take_snocY (s : ByteArray) (k : Nat) (h : k < s.size) : s.data.toList.take (k + 1) = s.data.toList.take k ++ [s[k]] := by
  have : s.data.toList[k]? = some s[k] := by rw [List.getElem?_eq_getElem (by simpa using h)]; rfl
  rw [List.take_add_one, this]; rfl
def SfPost (w : World) (x : List ByteArray) (q : Bool) (e : Ending) (w' : World) : Prop :=
  ∃ r, e = .returned (.tuple #[r, .bool q]) ∧ Os w' w.heap.size r x ∧ Below w.heap.size w w'
theorem os_nil (w : World) (B : Nat) : Os w B (.slice none 0 0) [] := World.ownsRow_nil _ _ _ _
theorem pcs_at {w : World} {P : List ByteArray} {t : TypeId} {j : Nat} (h : j < P.length) : (w.alloc (.cells (P.map Value.string).toArray t)).cell? ⟨w.heap.size, j, none⟩ = some (.string (P.getD j ByteArray.empty)) := by
  rw [World.cell?_alloc_new, List.getElem?_toArray]
  simp [List.getD, h]
theorem emp_str {p : ByteArray} (h : ne0 p = false) : p = ByteArray.empty := by
  refine ba_inj ?_
  have h1 : p.size = 0 := by simpa [ne0] using h
  have : p.data.toList.length = p.size := by simp
  rw [List.eq_nil_of_length_eq_zero (l := p.data.toList) (by omega)]
  rfl
theorem str_some {p : ByteArray} (h : ne0 p = true) : p.toList.isEmpty = false ∧ (p.toList == []) = false ∧ ¬ p.toList = [] := by
  have h1 : p.size ≠ 0 := by simpa [ne0] using h
  have : p.data.toList.length = p.size := by simp
  rw [ByteArray.toList_eq]
  cases hc : p.data.toList with
  | nil => rw [hc] at this; simp at this; omega
  | cons c l => exact ⟨rfl, rfl, by simp⟩
theorem own_base_T {w : World} {B B' e size : Nat} {v : Value} {n : Nat} {xs : List Value} (ho : w.ownsRow B e size v n xs) (hb : B' ≤ B) : w.ownsRow B' e size v n xs := by
  refine ⟨ho.1, ?_⟩
  rcases ho.2 with hn | ⟨g, cap, cur, rfl, hb', rest⟩
  · exact .inl hn
  · exact .inr ⟨g, cap, cur, rfl, by omega, rest⟩
set_option maxRecDepth 100000 in
set_option maxHeartbeats 1000000 in
theorem sfI (s : ByteArray) (x : List ByteArray) (q : Bool) (hr : sfF s = (x, q)) (m : Int) (w : World) (hm : w.cell? ⟨0, 0, none⟩ = some (.int .i64 m)) : Calls Tryd.prog 22 #[.string s] w (SfPost w x q) := by
  have HR := Lib.hid hr
  have HM := Lib.hid hm
  clear hr hm
  by_cases h600 : 600 < s.size
  · have he : ([], false) = (x, q) := by rw [← HR.out, sf_long h600]
    cases he
    go_enter Tryd.func22, Tryd.ntmps22
    go_wp2
    go_ret2
    exact ⟨_, rfl, os_nil _ _, Below.refl _ _⟩
  have h600' : s.size ≤ 600 := by omega
  have e600 : decide (600 < (s.size : Int)) = false := decide_eq_false (by omega)
  clear h600
  obtain ⟨i0, hi, hz0, hz1, hz2⟩ := info_partsS infoS
  go_enter Tryd.func22, Tryd.ntmps22
  go_wp2
  go_loop [4] (fun i => ∃ k : Nat, k ≤ s.size ∧ i = .int .i64 k ∧ (s.data.toList.take k).all pr = true) (fun i => s.size - (intOf i).toNat)
  case atStart => exact ⟨0, Nat.zero_le _, rfl, rfl⟩
  case round =>
    obtain ⟨k, hk, rfl, had⟩ := hrel
    have HA := Lib.hid had
    clear had
    by_cases hlt : k < s.size
    · have b1 : s[k].toNat < 256 := s[k].toNat_lt
      have HS := Lib.hid (take_snocY s k hlt)
      by_cases hd : 32 ≤ s[k].toNat ∧ s[k].toNat ≤ 126
      · obtain ⟨d0, d1⟩ := hd
        have hi : Hid (pr s[k] = true) := Lib.hid (by unfold pr; simp; exact ⟨d0, d1⟩)
        go_wp2
        go_round
        case rel => exact ⟨k + 1, by omega, by go_num, by rw [HS.out, pr_all_snoc, HA.out, hi.out]; rfl⟩
        case measure => simp [intOf]; omega
      · have hf : pr s[k] = false := by unfold pr; exact decide_eq_false hd
        have he : ([], false) = (x, q) := by rw [← HR.out, sf_bad (pr_no hlt hf)]
        cases he
        by_cases d0 : 32 ≤ s[k].toNat
        · have d1 : 126 < s[k].toNat := by omega
          clear hd hf
          go_wp2
          go_ret2
          exact ⟨_, rfl, os_nil _ _, Below.refl _ _⟩
        · have d0' : s[k].toNat < 32 := by omega
          clear hd hf d0
          go_wp2
          go_ret2
          exact ⟨_, rfl, os_nil _ _, Below.refl _ _⟩
    · have hks : k = s.size := by omega
      subst hks
      have HP : Hid (s.data.toList.all pr = true) := Lib.hid (by have := HA.out; rwa [List.take_of_length_le (by simp)] at this)
      clear HA
      go_wp2_with fail
      refine (strings_Split s sp1 m _ (by omega) HM.out (by decide)).mono ?_
      rintro e w1 ⟨rfl, hw1⟩
      change w1 = w.alloc (.cells ((pcs s).map Value.string).toArray 9) at hw1
      subst hw1
      rw [← pcs_len]
      have hpl : (pcs s).length ≤ 601 := by
        rw [pcs_len]
        have := Lib.countB_le sp1 (by decide) s.size s (Nat.le_refl _)
        omega
      obtain ⟨P, hP⟩ : ∃ P, P = pcs s := ⟨_, rfl⟩
      have HPP := Lib.hid hP
      rw [← hP] at hpl ⊢
      clear hP hk hlt
      have HC : Hid (∀ j, j < P.length → (w.alloc (.cells (P.map Value.string).toArray 9)).cell? ⟨w.heap.size, j, none⟩ = some (.string (P.getD j ByteArray.empty))) := Lib.hid fun j hj => pcs_at hj
      obtain ⟨w1, hw1⟩ : ∃ w1, w1 = w.alloc (.cells (P.map Value.string).toArray 9) := ⟨_, rfl⟩
      rw [← hw1] at HC ⊢
      have hs1 : w1.heap.size = w.heap.size + 1 := by rw [hw1]; simp
      have HB1 : Hid (Below w.heap.size w w1) := Lib.hid (by rw [hw1]; exact (Below.refl _ _).alloc (Nat.le_refl _) _)
      clear hw1
      go_wp2
      go_loopw [5, 7, 30] (fun o _ i wr => ∃ (j : Nat) (xs : List ByteArray), j ≤ P.length ∧ xs.length ≤ j ∧ i = .int .i64 j ∧ Hid (xs = (P.take j).filter ne0) ∧ Os wr (w.heap.size + 1) o xs ∧ Below (w.heap.size + 1) w1 wr) (fun _ _ i _ => P.length - (intOf i).toNat)
      case atStart => exact ⟨0, [], Nat.zero_le _, Nat.le_refl _, rfl, Lib.hid rfl, os_nil _ _, Below.refl _ _⟩
      case round =>
        obtain ⟨j, xs, hj, hxl, rfl, hxs, hown, hbw⟩ := hrel
        have hws := hbw.size
        by_cases hlt : j < P.length
        · have hc := HC.out j hlt
          rw [← hbw.cell (p := ⟨w.heap.size, j, none⟩) (by show w.heap.size < w.heap.size + 1; omega)] at hc
          have HT := Lib.hid (take_filter hlt)
          generalize P.getD j ByteArray.empty = p at *
          cases hne : ne0 p
          · have hp := emp_str hne
            subst hp
            have hfin : Hid (xs = (P.take (j + 1)).filter ne0) := Lib.hid (by rw [HT.out, ← hxs.out, hne]; simp)
            clear hne
            go_wp2
            go_roundw
            case rel => exact ⟨j + 1, xs, by omega, by omega, by go_num, hfin, hown, hbw⟩
            case measure => simp [intOf]; omega
          · obtain ⟨n1, n2, n3⟩ := str_some hne
            have hfin : Hid (xs ++ [p] = (P.take (j + 1)).filter ne0) := Lib.hid (by rw [HT.out, ← hxs.out, hne]; simp)
            clear hne
            go_wp2_with (at_builtin; refine wpList_append_at _ rfl _ _ 30 rfl (w.heap.size + 1) 9 i0 (.string ByteArray.empty) 1 16 Tryd.underlying30 hi hz0 hz1 hz2 rfl (by decide) _ xs.length (xs.map Value.string) rfl (own_below hown ((Below.refl _ _).alloc (Nat.le_refl _) _)) _ 1 1 [.string p] rfl rfl (cells_str _ _ _) (by simp [Value.oneCell']) (by unfold maxLen; omega) (by omega) (by simp; omega) (by omega) ?_; intro v' w5 hown5 hgrow5 hat5)
            have hgrow5 : (wr.alloc (.cells #[.string p] 9)).grownBy w5 u5.ownBlock := hgrow5
            have hb5 : Below (w.heap.size + 1) w1 w5 := Below.grown (hbw.alloc (by omega) _) hgrow5 (by simp; omega) (fun k hk => (hown.lt k hk).1)
            have ho5 := os_snoc hown5
            clear hown5 hgrow5 hat5 n1 n2 n3
            go_wp2
            go_roundw
            case rel => exact ⟨j + 1, xs ++ [p], by omega, by simp; omega, by go_num, hfin, ho5, hb5⟩
            case measure => simp [intOf]; omega
        · have hje : j = P.length := by omega
          subst hje
          have hf : Hid (xs = flds s) := Lib.hid (by rw [hxs.out, List.take_of_length_le (Nat.le_refl _), HPP.out]; rfl)
          obtain ⟨oa, oc, hof⟩ : ∃ a c, u5 = .slice a xs.length c := by
            rcases hown.2 with ⟨e, h0⟩ | ⟨g, cap, cur, e, _⟩
            · exact ⟨none, 0, by rw [e, h0]⟩
            · exact ⟨_, _, e⟩
          subst hof
          have HO := Lib.hid hown
          have HBW := Lib.hid (HB1.out.trans (hbw.mono (by omega)))
          have ho : Os wr w.heap.size (.slice oa xs.length oc) xs := own_base_T hown (by omega)
          clear hlt hown hbw
          by_cases h24 : 24 < xs.length
          · have he : ([], false) = (x, q) := by rw [← HR.out, sf_many (by rw [← hf.out]; exact h24)]
            cases he
            go_wp2
            go_ret2
            exact ⟨_, rfl, os_nil _ _, HBW.out⟩
          · have he : (flds s, true) = (x, q) := by rw [← HR.out, sf_yes h600' HP.out (by rw [← hf.out]; omega)]
            rw [← hf.out] at he
            cases he
            have e24 : decide (24 < (x.length : Int)) = false := decide_eq_false (by omega)
            clear h24
            go_wp2
            go_ret2
            exact ⟨_, rfl, ho, HBW.out⟩
end Go.Proofs.YtpdpkgpjgockaaaDoor
