/- Plain laws: the fields of a text, joined by single spaces. Walk: sameTexts. -/
import Derived.Test.YtpdpkgpjgockaaaDoorYe
namespace Go.Proofs.YtpdpkgpjgockaaaDoor
open Go.RowKit

theorem cut_mem : ∀ (l : List UInt8) (p : List UInt8), p ∈ cut l → p.length ≤ l.length ∧ ∀ b ∈ p, b ≠ 32 ∧ b ∈ l
  | [], p, h => by
    have : p = [] := by simpa [cut] using h
    subst this
    exact ⟨Nat.le_refl _, fun b hb => by cases hb⟩
  | c :: l, p, h => by
    unfold cut at h
    by_cases hc : c = 32
    · rw [if_pos hc] at h
      rcases List.mem_cons.1 h with rfl | h
      · exact ⟨Nat.zero_le _, fun b hb => by cases hb⟩
      · obtain ⟨h1, h2⟩ := cut_mem l p h
        exact ⟨Nat.le_succ_of_le h1, fun b hb => ⟨(h2 b hb).1, List.mem_cons_of_mem _ (h2 b hb).2⟩⟩
    · rw [if_neg hc] at h
      obtain ⟨q, qs, hq⟩ := cut_ne l
      rw [hq] at h
      simp only at h
      rcases List.mem_cons.1 h with rfl | h
      · obtain ⟨h1, h2⟩ := cut_mem l q (by rw [hq]; exact List.mem_cons_self)
        refine ⟨Nat.succ_le_succ h1, fun b hb => ?_⟩
        rcases List.mem_cons.1 hb with rfl | hb
        · exact ⟨hc, List.mem_cons_self⟩
        · exact ⟨(h2 b hb).1, List.mem_cons_of_mem _ (h2 b hb).2⟩
      · obtain ⟨h1, h2⟩ := cut_mem l p (by rw [hq]; exact List.mem_cons_of_mem _ h)
        exact ⟨Nat.le_succ_of_le h1, fun b hb => ⟨(h2 b hb).1, List.mem_cons_of_mem _ (h2 b hb).2⟩⟩
theorem cut_32 (l : List UInt8) : cut (32 :: l) = [] :: cut l := by
  conv => lhs; unfold cut
  rw [if_pos rfl]
theorem cut_no {b : UInt8} {l p : List UInt8} {ps : List (List UInt8)} (hb : b ≠ 32) (h : cut l = p :: ps) : cut (b :: l) = (b :: p) :: ps := by
  conv => lhs; unfold cut
  rw [if_neg hb, h]
theorem cut_app : ∀ (p l : List UInt8), (∀ b ∈ p, b ≠ 32) → cut (p ++ 32 :: l) = p :: cut l
  | [], l, _ => cut_32 l
  | b :: p, l, h => cut_no (h b List.mem_cons_self) (cut_app p l (fun c hc => h c (List.mem_cons_of_mem _ hc)))
def joinL (xs : List (List UInt8)) : List UInt8 := xs.flatMap (· ++ [32])
theorem cut_join : ∀ xs : List (List UInt8), (∀ p ∈ xs, ∀ b ∈ p, b ≠ 32) → cut (joinL xs) = xs ++ [[]]
  | [], _ => rfl
  | p :: xs, h => by
    have e : joinL (p :: xs) = p ++ 32 :: joinL xs := by unfold joinL; simp
    rw [e, cut_app p _ (h p List.mem_cons_self), cut_join xs (fun q hq => h q (List.mem_cons_of_mem _ hq))]
    rfl
theorem join_snoc (xs : List (List UInt8)) (p : List UInt8) : joinL (xs ++ [p]) = joinL xs ++ (p ++ [32]) := by unfold joinL; simp
theorem filter_all {α : Type} {p : α → Bool} : ∀ {l : List α}, (∀ x ∈ l, p x = true) → l.filter p = l
  | [], _ => rfl
  | x :: l, h => by rw [List.filter_cons, h x List.mem_cons_self, if_pos rfl, filter_all (fun y hy => h y (List.mem_cons_of_mem _ hy))]
/-- THE FIELDS OF THE JOINED FIELDS are the fields -/
theorem flds_again {s t : ByteArray} (ht : t.data.toList = joinL ((flds s).map (·.data.toList))) : flds t = flds s := by
  apply map_ba
  rw [flds_cut, ht]
  have hm : ∀ p ∈ (flds s).map (·.data.toList), p ∈ cut s.data.toList ∧ neL p = true := by
    intro p hp
    rw [flds_cut] at hp
    exact List.mem_filter.1 hp
  rw [cut_join _ (fun p hp b hb => ((cut_mem _ p (hm p hp).1).2 b hb).1), List.filter_append, filter_all (fun p hp => (hm p hp).2)]
  show _ ++ [] = _
  rw [List.append_nil]
theorem flds_pr {s t : ByteArray} (ht : t.data.toList = joinL ((flds s).map (·.data.toList))) (hs : s.data.toList.all pr = true) : t.data.toList.all pr = true := by
  rw [ht, List.all_eq_true]
  intro b hb
  unfold joinL at hb
  obtain ⟨p, hp, hb⟩ := List.mem_flatMap.1 hb
  rcases List.mem_append.1 hb with hb | hb
  · rw [flds_cut] at hp
    have h2 := ((cut_mem _ p (List.mem_filter.1 hp).1).2 b hb).2
    exact List.all_eq_true.1 hs b h2
  · rw [List.mem_singleton.1 hb]; decide
theorem flds_size {s p : ByteArray} (hp : p ∈ flds s) : p.size ≤ s.size := by
  have h : p.data.toList ∈ (flds s).map (·.data.toList) := List.mem_map.2 ⟨p, hp, rfl⟩
  rw [flds_cut] at h
  have := (cut_mem _ _ (List.mem_filter.1 h).1).1
  simpa using this
theorem sf_true {s : ByteArray} {x : List ByteArray} (h : sfF s = (x, true)) : s.size ≤ 600 ∧ s.data.toList.all pr = true ∧ (flds s).length ≤ 24 ∧ x = flds s := by
  unfold sfF at h
  split at h
  · rename_i h3
    cases h
    exact ⟨h3.1, h3.2.1, h3.2.2, rfl⟩
  · cases h
theorem sf_false {s : ByteArray} {x : List ByteArray} (h : sfF s = (x, false)) : x = [] := by
  unfold sfF at h
  split at h
  · cases h
  · cases h; rfl
/-- the answer at the joined fields -/
theorem sf_again {s t : ByteArray} {x : List ByteArray} (h : sfF s = (x, true)) (ht : t.data.toList = joinL (x.map (·.data.toList))) (h6 : t.size ≤ 600) : sfF t = (x, true) := by
  obtain ⟨h1, h2, h3, rfl⟩ := sf_true h
  rw [sf_yes h6 (flds_pr ht h2) (by rw [flds_again ht]; exact h3), flds_again ht]
theorem os_split {w : World} {B : Nat} {v : Value} {xs : List ByteArray} (h : Os w B v xs) : (xs = [] ∧ ∃ a c, v = .slice a 0 c) ∨
    ∃ g cap, v = .slice (some ⟨g, 0, none⟩) xs.length cap ∧ ∀ j, j < xs.length → w.cell? ⟨g, j, none⟩ = some (.string (xs.getD j ByteArray.empty)) := by
  rcases h.2 with ⟨rfl, h0⟩ | ⟨g, cap, cur, rfl, _, hg, hn, hm, _, ht⟩
  · exact .inl ⟨List.eq_nil_of_length_eq_zero h0, _, _, rfl⟩
  · refine .inr ⟨g, cap, rfl, fun j hj => ?_⟩
    have h1 := World.ownsRow.cells h (g := g) rfl j (.string (xs.getD j ByteArray.empty)) (by simp [List.getD, hj])
    rw [Addr.add_lit, Nat.zero_add] at h1
    exact h1
theorem os_below {w w' : World} {B : Nat} {v : Value} {xs : List ByteArray} (h : Os w B v xs) (hb : Below w.heap.size w w') : Os w' B v xs := own_below h hb
set_option maxRecDepth 100000 in
set_option maxHeartbeats 1000000 in
theorem sameTexts_any (u v : Value) (B B' : Nat) (xs : List ByteArray) (w : World) (hU : Os w B u xs) (hV : Os w B' v xs) (hlen : xs.length ≤ 1048576) :
    Calls Tryd.prog 24 #[u, v] w fun e w' => e = .returned (.bool true) ∧ Below w.heap.size w w' := by
  rcases os_split hU with ⟨hx, a, c, rfl⟩ | ⟨b, cap, rfl, hc⟩
  · subst hx
    rcases os_split hV with ⟨_, a', c', rfl⟩ | ⟨b', cap', rfl, _⟩
    all_goals
      go_enter Tryd.func24, Tryd.ntmps24
      go_wp2
      refine wp_loop_rounds 1 ?_
      rw [rounds_succ]
      go_wp2
      go_ret
      exact ⟨rfl, Below.refl _ _⟩
  · rcases os_split hV with ⟨hx, a', c', rfl⟩ | ⟨b', cap', rfl, hc'⟩
    · subst hx
      go_enter Tryd.func24, Tryd.ntmps24
      go_wp2
      refine wp_loop_rounds 1 ?_
      rw [rounds_succ]
      go_wp2
      go_ret
      exact ⟨rfl, Below.refl _ _⟩
    have HC := Lib.hid hc
    have HC' := Lib.hid hc'
    clear hc hc' hU hV
    go_enter Tryd.func24, Tryd.ntmps24
    go_wp2
    go_loopw [5] (fun i wr => ∃ j : Nat, j ≤ xs.length ∧ i = .int .i64 j ∧ Below w.heap.size w wr) (fun i _ => xs.length - (intOf i).toNat)
    case atStart => exact ⟨0, Nat.zero_le _, rfl, Below.refl _ _⟩
    case round =>
      obtain ⟨j, hj, rfl, hbw⟩ := hrel
      by_cases hlt : j < xs.length
      · have g1 := HC.out j hlt
        have g2 := HC'.out j hlt
        rw [← hbw.cell (p := ⟨b, j, none⟩) (World.block_lt_of_cell? _ _ g1)] at g1
        rw [← hbw.cell (p := ⟨b', j, none⟩) (World.block_lt_of_cell? _ _ g2)] at g2
        generalize xs.getD j ByteArray.empty = p at *
        have hpp : (p.toList == p.toList) = true := by simp
        have hpn : (p.toList != p.toList) = false := by simp
        go_wp2
        go_region
        go_wp2
        go_roundw
        case rel => exact ⟨j + 1, by omega, by go_num, by repeat (first | exact hbw | refine Below.drew ?_ | refine below_drewN ?_ _)⟩
        case measure => simp [intOf]; omega
      · have hke : j = xs.length := by omega
        subst hke
        go_wp2
        go_ret
        exact ⟨rfl, hbw⟩
end Go.Proofs.YtpdpkgpjgockaaaDoor
