/- Walk: FieldOf, the program's. -/
import Derived.Test.YtbjllfnjecggfaaZb
namespace Go.Proofs.Ytbjllfnjecggfaa
open Go.RowKit

theorem fld_len (L : Pic) (k : Nat) : (fld L k).length = (L.length - k + 1) / 2 := by unfold fld; simp
theorem fld_at (L : Pic) (k m : Nat) (h : m < (fld L k).length) : (fld L k).getD m [] = L.getD (k + 2 * m) [] := by
  rw [fld_len] at h
  unfold fld
  simp [List.getD, h]
theorem fld_take (L : Pic) (k m : Nat) (h : m < (fld L k).length) : (fld L k).take (m + 1) = (fld L k).take m ++ [L.getD (k + 2 * m) []] := by
  rw [← fld_at L k m h, List.take_add_one, List.getElem?_eq_getElem h]
  simp [List.getD, h]
theorem picB_parts {L : Pic} (h : picB L = true) : (4 ≤ L.length ∧ L.length ≤ 64) ∧ L.length % 4 = 0 ∧ ∀ i, i < L.length → rowB (L.getD i []) = true ∧ (L.getD i []).length = (L.getD 0 []).length := by
  unfold picB at h
  rw [Bool.and_eq_true, Bool.and_eq_true, decide_eq_true_eq, decide_eq_true_eq, List.all_eq_true] at h
  refine ⟨h.1.1, h.1.2, fun i hi => ?_⟩
  have hm : L.getD i [] ∈ L := by
    have e : L.getD i [] = L[i] := by simp [List.getD, hi]
    rw [e]; exact List.getElem_mem hi
  have := h.2 _ hm
  rw [Bool.and_eq_true, decide_eq_true_eq] at this
  exact this
/-- what FieldOf gives -/
def FoPost (w : World) (q : Bool) (L : Pic) (k : Nat) (e : Ending) (w' : World) : Prop :=
  ∃ r, e = .returned r ∧ OP w' w.heap.size r (if q = true then fld L k else []) ∧ Below w.heap.size w w'
set_option maxRecDepth 100000 in
set_option maxHeartbeats 1000000 in
theorem fieldI_any (v : Value) (L : Pic) (k : Nat) (q : Bool) (w : World) (hR : Rp w v L) (hrow : ∀ i, i < L.length → (L.getD i []).length ≤ 1048576) (hk : k ≤ 1) (hq : picB L = q) :
    Calls Try.prog 75 #[v, .int .i64 k] w (FoPost w q L k) := by
  obtain ⟨i0, hi, hz0, hz1, hz2⟩ := info_parts infoR
  have HQ := Lib.hid hq
  have HP := Lib.hid (picI_any v L q w hR hrow hq)
  have HRow := Lib.hid hrow
  have HRp := Lib.hid hR
  clear hrow
  cases q
  · obtain ⟨a, c, rfl⟩ := hR.form
    clear hR hq
    go_enter Try.func75, Try.ntmps75
    go_wp2_with fail
    refine HP.out.mono ?_
    rintro e w1 ⟨rfl, hb1⟩
    go_wp2
    go_ret
    exact ⟨_, rfl, OP.nil _ _, hb1⟩
  · obtain ⟨⟨n1, n2⟩, n3, n4⟩ := picB_parts hq
    have N4 := Lib.hid n4
    clear hq n4 n3
    rcases hR with ⟨e, _⟩ | ⟨b, off, cap, rfl, hc⟩
    · subst e; simp at n1
    have HC := Lib.hid hc
    have hfl := fld_len L k
    obtain ⟨n, hn⟩ : ∃ n, n = (fld L k).length := ⟨_, rfl⟩
    rw [← hn] at hfl
    have HN := Lib.hid hn
    clear hc hn
    have HD := Lib.hid (decide_eq_true (show (0 : Int) ≤ (k : Int) ∧ (k : Int) ≤ 1 by omega))
    go_enter Try.func75, Try.ntmps75
    go_wp2_with fail
    refine HP.out.mono ?_
    rintro e w1 ⟨rfl, hb1⟩
    go_wp2_with fail
    refine (withinI_any _ _ _ true _ HD.out).mono ?_
    rintro e w' ⟨rfl, rfl⟩
    go_wp2
    go_loopw [5, 6] (fun o i wr => ∃ m : Nat, m ≤ n ∧ i = .int .i64 ((k + 2 * m : Nat) : Int) ∧ Hid (OP wr w.heap.size o ((fld L k).take m)) ∧ Below w.heap.size w wr) (fun _ i _ => 66 - (intOf i).toNat)
    case atStart => exact ⟨0, Nat.zero_le _, rfl, Lib.hid (OP.nil _ _), hb1⟩
    case round =>
      obtain ⟨m, hm, rfl, hop, hbw⟩ := hrel
      have hbs := hbw.size
      obtain ⟨r, hr⟩ : ∃ r, r = k + 2 * m := ⟨_, rfl⟩
      rw [← hr]
      have HRR0 := Lib.hid hr
      have hr66 : r ≤ 200 := by omega
      by_cases hlt : r < L.length
      · have hmn : m < n := by omega
        obtain ⟨a, c, g1, g2⟩ := HC.out r hlt
        rw [← hbw.cell (p := ⟨b, off + r, none⟩) (World.block_lt_of_cell? _ _ g1)] at g1
        have G2 := Lib.hid (g2.below hbw)
        have hrl : (L.getD r []).length ≤ 64 := (rowB_len (N4.out r hlt).1).2
        have HT := Lib.hid (fld_take L k m (by rw [← HN.out]; exact hmn))
        rw [← hr] at HT
        clear g2 hr
        generalize L.getD r [] = l at *
        go_wp2_with fail
        refine (cloneC_any _ l _ G2.out (by omega)).mono ?_
        rintro e w3 ⟨u, rfl, hu, hb3⟩
        have hob : ∀ k, u5.ownBlock = some k → k < wr.heap.size := by
          obtain ⟨us, hl, ho, _⟩ := hop.out
          exact fun k hk => (ho.lt k hk).2
        have hop3 := hop.out.below hb3
        have hin : ∀ k, inB u k → w.heap.size ≤ k ∧ k < w3.heap.size ∧ some k ≠ u5.ownBlock ∧ Frz w3 k := fun k hk => by
          obtain ⟨h1, h2, h3⟩ := oc_in hu k hk
          exact ⟨by omega, h2, fun e => by have := hob k e.symm; omega, h3⟩
        obtain ⟨ua, uc, hua⟩ := hu.rc.form
        have HU := Lib.hid hu.rc
        have HIN := Lib.hid hin
        have hb3' := hbw.trans (hb3.mono hbs)
        have HB3 := Lib.hid hb3'
        obtain ⟨us, hl, ho, hrr⟩ := hop3
        have HRR := Lib.hid hrr
        have hlen : ((fld L k).take m).length = m := by rw [List.length_take, ← HN.out]; omega
        rw [hlen] at hl ho
        have HLen := Lib.hid hlen
        have hs3 := hb3.size
        clear hop hb3 hbw g1 hu hin hrr hob hb3' hlen hbs
        subst hua
        go_wp2_with (at_builtin; refine wpList_append_at _ rfl _ _ 64 rfl w.heap.size 40 i0 (.slice none 0 0) 1 24 Try.underlying64 hi hz0 hz1 hz2 rfl (by decide) _ m us rfl (own_below ho ((Below.refl _ _).alloc (Nat.le_refl _) _)) _ 1 1 [.slice ua l.length uc] rfl rfl (cells_row _ _ _) (by simp [Value.oneCell']) (by unfold maxLen; omega) (by omega) (by have := HB3.out.size; simp; omega) (by omega) ?_; intro v' w5 hown5 hgrow5 hat5)
        have hgrow5 : (w3.alloc (.cells #[.slice ua l.length uc] 40)).grownBy w5 u5.ownBlock := hgrow5
        have hop5 : Hid (OP w5 w.heap.size v' ((fld L k).take (m + 1))) := Lib.hid (by
          rw [HT.out]
          refine OP.snoc (w := w3) (us := us) (v := u5) (by rw [HLen.out]; exact hl) HRR.out HU.out HIN.out (by rw [HLen.out]; exact hown5) hgrow5 fun q hq => ?_
          rcases hat5 q hq with h | h
          · exact .inl h
          · right; have : w3.heap.size + 1 ≤ q := by simpa using h
            omega)
        have hb5 : Below w.heap.size w w5 := Below.grown (HB3.out.alloc HB3.out.size _) hgrow5 (by have := HB3.out.size; simp; omega) (fun k hk => (ho.lt k hk).1)
        clear hown5 hgrow5 hat5 HRR HU HIN HB3 ho hl
        go_wp2
        go_roundw
        case rel => exact ⟨m + 1, by omega, by have := HRR0.out; congr 1; push_cast; omega, hop5, hb5⟩
        case measure => have := HRR0.out; simp [intOf]; omega
      · have hmn : m = n := by omega
        have hfin : Hid (OP wr w.heap.size u5 (fld L k)) := Lib.hid (by
          have := hop.out
          rwa [hmn, List.take_of_length_le (by rw [← HN.out]; exact Nat.le_refl _)] at this)
        clear hop hr
        go_wp2
        go_ret
        exact ⟨_, rfl, hfin.out, hbw⟩
end Go.Proofs.Ytbjllfnjecggfaa
