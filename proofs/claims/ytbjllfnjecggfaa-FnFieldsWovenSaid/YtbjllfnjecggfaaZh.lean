/- Walk: the drawing of a picture, whole or damaged. -/
import Derived.Test.YtbjllfnjecggfaaZg
import Derived.Test.YtbjllfnjecggfaaUh
import Derived.Test.YtbjllfnjecggfaaUk
namespace Go.Proofs.Ytbjllfnjecggfaa
open Go.RowKit

def PcPost (B : Nat) (w : World) (g : Nat) (a : Option Addr) (n cap : Nat) (e : Ending) (w' : World) : Prop :=
  ∃ r L, e = .returned r ∧ Rq w' w.heap.size r L ∧ L.length ≤ 16 ∧ (∀ i, i < L.length → (L.getD i []).length ≤ 64) ∧ Cur B w' g a n cap ∧ Only (fun j => g = j) w w'
theorem OP.form {w : World} {B : Nat} {v : Value} {L : Pic} (h : OP w B v L) (h1 : 1 ≤ L.length) : ∃ b cap, v = .slice (some ⟨b, 0, none⟩) L.length cap ∧ L.length ≤ cap ∧ cap ≤ maxLen := by
  obtain ⟨us, hl, ho, hr⟩ := h
  rcases ho.2 with ⟨_, h0⟩ | ⟨g, cap, cur, e, _, _, h2, h3, _⟩
  · omega
  · exact ⟨g, cap, e, h2, h3⟩
/-- a picture that is appended to itself -/
theorem OP.twice {w w' : World} {B : Nat} {v v' : Value} {L : Pic} {us : List Value} (hl : us.length = L.length)
    (hr : ∀ i, i < L.length → Rc w (us.getD i undef) (L.getD i []) ∧ ∀ k, inB (us.getD i undef) k → B ≤ k ∧ k < w.heap.size ∧ some k ≠ v.ownBlock ∧ Frz w k)
    (hown : w'.ownsRow B 40 1 v' (L.length + L.length) (us ++ us)) (hg : w.grownBy w' v.ownBlock) : Rq w' B v' (L ++ L) := by
  have ho0 := hown
  rcases hown.2 with ⟨rfl, h0⟩ | ⟨g, cap, cur, rfl, hB, hgg, hn, hm, _, ht⟩
  · have : L = [] := List.eq_nil_of_length_eq_zero (by omega)
    subst this
    exact .inl ⟨rfl, _, _, rfl⟩
  · refine .inr ⟨g, 0, cap, by rw [List.length_append], ⟨hB, lt_of_heap hgg, fun j => own_frozen ho0 j⟩, fun i hi => ?_⟩
    rw [List.length_append] at hi
    have h1 := World.ownsRow.cells ho0 (g := g) rfl i ((us ++ us).getD i undef) (by simp [List.getD, hl, hi])
    rw [Addr.add_lit] at h1
    have step : ∀ x : Value, ∀ y : List CV, Rc w x y → (∀ k, inB x k → B ≤ k ∧ k < w.heap.size ∧ some k ≠ v.ownBlock ∧ Frz w k) → Rc w' x y ∧ ∀ k, inB x k → B ≤ k ∧ k < w'.heap.size ∧ Frz w' k := by
      intro x y h1 h2
      refine ⟨h1.move fun k hk hlt => hg.block k hlt (h2 k hk).2.2.1, fun k hk => ?_⟩
      obtain ⟨b1, b2, b3, b4⟩ := h2 k hk
      exact ⟨b1, Nat.lt_of_lt_of_le b2 hg.size, b4.move (hg.block k b2 b3)⟩
    by_cases h : i < L.length
    · have e1 : (us ++ us).getD i undef = us.getD i undef := by simp [List.getD, List.getElem?_append_left (show i < us.length by omega)]
      have e2 : (L ++ L).getD i [] = L.getD i [] := by simp [List.getD, List.getElem?_append_left h]
      obtain ⟨r1, r2⟩ := step _ _ (hr i h).1 (hr i h).2
      exact ⟨_, h1, by rw [e1, e2]; exact r1, by rw [e1]; exact r2⟩
    · have e1 : (us ++ us).getD i undef = us.getD (i - L.length) undef := by simp [List.getD, List.getElem?_append_right (show us.length ≤ i by omega), hl]
      have e2 : (L ++ L).getD i [] = L.getD (i - L.length) [] := by simp [List.getD, List.getElem?_append_right (show L.length ≤ i by omega)]
      obtain ⟨r1, r2⟩ := step _ _ (hr (i - L.length) (by omega)).1 (hr (i - L.length) (by omega)).2
      exact ⟨_, h1, by rw [e1, e2]; exact r1, by rw [e1]; exact r2⟩
theorem len_all {L : Pic} {W : Nat} (h : ∀ i, i < L.length → (L.getD i []).length = W) (hW : W ≤ 64) : ∀ i, i < L.length → (L.getD i []).length ≤ 64 := fun i hi => by rw [h i hi]; exact hW
theorem len_twice {L : Pic} {W : Nat} (h : ∀ i, i < L.length → (L.getD i []).length = W) (hW : W ≤ 64) : ∀ i, i < (L ++ L).length → ((L ++ L).getD i []).length ≤ 64 := fun i hi => by
  rw [List.length_append] at hi
  by_cases h1 : i < L.length
  · rw [show (L ++ L).getD i [] = L.getD i [] by simp [List.getD, List.getElem?_append_left h1], h i h1]; exact hW
  · rw [show (L ++ L).getD i [] = L.getD (i - L.length) [] by simp [List.getD, List.getElem?_append_right (show L.length ≤ i by omega)], h _ (by omega)]; exact hW
theorem len_tail {L : Pic} {W : Nat} (h : ∀ i, i < L.length → (L.getD i []).length = W) (hW : W ≤ 64) : ∀ i, i < (L.drop 1).length → ((L.drop 1).getD i []).length ≤ 64 := fun i hi => by
  rw [List.length_drop] at hi
  rw [getD_drop, h _ (by omega)]; exact hW
theorem len_set {L : Pic} {W k : Nat} {l : List CV} (h : ∀ i, i < L.length → (L.getD i []).length = W) (hW : W ≤ 64) (hl : l.length ≤ 64) : ∀ i, i < (L.set k l).length → ((L.set k l).getD i []).length ≤ 64 := fun i hi => by
  rw [List.length_set] at hi
  by_cases e : k = i
  · subst e; rw [show (L.set k l).getD k [] = l by simp [List.getD, hi]]; exact hl
  · rw [show (L.set k l).getD i [] = L.getD i [] by simp [List.getD, List.getElem?_set_ne e], h i hi]; exact hW
/-- a row of a picture, and its first cell -/
theorem Rq.row {w : World} {B b pc k : Nat} {L : Pic} (h : Rq w B (.slice (some ⟨b, 0, none⟩) L.length pc) L) (hk : k < L.length) (hW : 1 ≤ (L.getD k []).length) :
    (B ≤ b ∧ b < w.heap.size ∧ Frz w b) ∧ ∃ rb ro rc, w.cell? ⟨b, k, none⟩ = some (.slice (some ⟨rb, ro, none⟩) (L.getD k []).length rc) ∧ Rc w (.slice (some ⟨rb, ro, none⟩) (L.getD k []).length rc) (L.getD k []) ∧
      ((L.getD k []).length ≤ rc ∧ rc ≤ maxLen) ∧ (B ≤ rb ∧ rb < w.heap.size ∧ Frz w rb) ∧ ∃ x y z, w.cell? ⟨rb, ro, none⟩ = some (.float .f32 x) ∧ w.cell? ⟨rb, ro + 1, none⟩ = some (.complex .f32 y z) := by
  rcases h with ⟨e, _⟩ | ⟨b', off, cap, e, hb, hc⟩
  · subst e; simp at hk
  · cases e
    obtain ⟨u, h1, h2, h3⟩ := hc k hk
    rw [Nat.zero_add] at h1
    have h20 := h2
    rcases h2 with ⟨o, c, _, e⟩ | ⟨rb, ro, rc, e, c1, c2, c3⟩
    · rw [e] at hW; simp at hW
    · subst e
      obtain ⟨d1, d2⟩ := c3 0 hW
      rw [Nat.zero_mul, Nat.add_zero] at d1 d2
      exact ⟨hb, rb, ro, rc, h1, h20, ⟨c1, c2⟩, h3 rb ⟨_, _, _, rfl⟩, _, _, _, d1, d2⟩
theorem only_grow {w w1 w2 : World} {g : Nat} {row : Option Nat} (h : Only (fun j => g = j) w w1) (hg : w1.grownBy w2 row) (hr : ∀ k, row = some k → w.heap.size ≤ k) : Only (fun j => g = j) w w2 :=
  ⟨hg.os.trans h.os, hg.tape.trans h.tape, hg.output.trans h.output, Nat.le_trans h.size hg.size, fun k hk hn => (hg.block k (Nat.lt_of_lt_of_le hk h.size) (fun e => by have := hr k e.symm; omega)).trans (h.block k hk hn)⟩
set_option maxRecDepth 100000 in
set_option maxHeartbeats 2000000 in
theorem picture_any (B g : Nat) (a : Option Addr) (n cap : Nat) (w : World) (h : Cur B w g a n cap) :
    Calls Try.prog 118 #[.pointer (some ⟨g, 0, none⟩)] w (PcPost B w g a n cap) := by
  obtain ⟨i1, hi', hz0', hz1', hz2'⟩ := info_parts infoR
  have hglt := h.lt
  have hBg := h.two
  have HC := Lib.hid h
  clear h
  go_enter Try.func118, Try.ntmps118
  go_wp2_with fail
  refine (paired_any B g a n cap _ HC.out).mono ?_
  rintro e w1 ⟨r, L, W, rfl, hop, h4, h8, hW1, hW4, hall, hc, ho⟩
  obtain ⟨b, pc, rfl, hpc, hpm⟩ := hop.form (by omega)
  have HC1 := Lib.hid hc
  have HOP1 := Lib.hid (OP.lower hop (Nat.le_refl _))
  have HO1 := Lib.hid ho
  have HALL := Lib.hid hall
  clear hop hc ho HC hall
  go_wp2_with fail
  refine (below_any B g a n cap L.length _ HC1.out (by omega) (by omega)).mono ?_
  rintro e w2 ⟨x, rfl, x0, x1, hc, ho⟩
  rw [if_neg (by omega)] at x1
  obtain ⟨k, hk⟩ : ∃ k : Nat, x = (k : Int) := ⟨x.toNat, by omega⟩
  subst hk
  have HC2 := Lib.hid hc
  have HOP2 := Lib.hid (HOP1.out.only ho hglt)
  have HO2 := Lib.hid (HO1.out.trans ho)
  clear hc ho HC1 HOP1 HO1 x0
  go_wp2_with fail
  refine (below_any B g a n cap 14 _ HC2.out (by omega) (by omega)).mono ?_
  rintro e w3 ⟨t, rfl, t0, t1, hc, ho⟩
  rw [if_neg (by omega)] at t1
  have HC3 := Lib.hid hc
  have HOP3 := Lib.hid (HOP2.out.only ho hglt)
  have HO3 := Lib.hid (HO2.out.trans ho)
  clear hc ho HC2 HOP2 HO2
  have hklt : k < L.length := by omega
  have hp1 : 1 ≤ L.length := by omega
  have hpc1 : pc ≠ 1 := by omega
  by_cases ht0 : t = 0
  · subst ht0
    have hR := HOP3.out.rq.tail (pc - 1) hp1
    have hl : (L.drop 1).length = L.length - 1 := List.length_drop
    have HR := Lib.hid hR
    clear hR
    go_wp2
    go_ret
    exact ⟨_, L.drop 1, rfl, HR.out, by omega, len_tail HALL.out (by omega), HC3.out, HO3.out⟩
  by_cases ht1 : t = 1
  · subst ht1
    have hlk : (L.getD k []).length = W := HALL.out k hklt
    obtain ⟨⟨hb1, hb2, hb3⟩, rb, ro, rc, hcell, hrow, ⟨hc1, hc2⟩, ⟨hr1, hr2, hr3⟩, _⟩ := HOP3.out.rq.row hklt (by omega)
    have hfz := hb3 k
    have hset : ∀ u l, Rc w3 u l → (∀ q, inB u q → q = rb) → l.length ≤ 64 → ∃ r L', r = .slice (some ⟨b, 0, none⟩) L.length pc ∧ Rq (w3.setCell ⟨b, k, none⟩ u) w.heap.size r L' ∧ L'.length ≤ 16 ∧ ∀ i, i < L'.length → (L'.getD i []).length ≤ 64 := fun u l h1 h2 h3 => by
      have := HOP3.out.rq.put (k := k) hklt (u := u) (l := l) h1 (fun q hq => by rw [h2 q hq]; exact ⟨hr1, hr2, hr3⟩) (by rw [Nat.zero_add]; exact hcell) ⟨_, _, _, rfl⟩
      rw [Nat.zero_add] at this
      exact ⟨_, L.set k l, rfl, this, by rw [List.length_set]; omega, len_set HALL.out (by omega) h3⟩
    have HSET := Lib.hid hset
    have HROW := Lib.hid hrow
    have hcu := Lib.hid (fun u => HC3.out.setOther (p := ⟨b, k, none⟩) u (show b ≠ g by omega) (show B ≤ b by omega))
    have hon := Lib.hid (fun u => HO3.out.setNew (p := ⟨b, k, none⟩) hb1 u)
    rw [hlk] at hcell hc1
    have hlk' := Lib.hid hlk
    clear hset hlk hb3 hr3 hrow
    by_cases hrc : rc = 1
    · subst hrc
      have hWe : W = 1 := by omega
      go_wp2
      go_ret
      obtain ⟨r, L', rfl, p1, p2, p3⟩ := HSET.out (.slice (some ⟨rb, ro, none⟩) 0 0) [] (.inl ⟨_, _, rfl, rfl⟩) (fun q ⟨_, _, _, e⟩ => by cases e; rfl) (by simp)
      exact ⟨_, L', rfl, p1, p2, p3, hcu.out _, hon.out _⟩
    · have htl := Lib.hid (HROW.out.tail)
      go_wp2
      go_ret
      obtain ⟨r, L', rfl, p1, p2, p3⟩ : ∃ r L', r = .slice (some ⟨b, 0, none⟩) L.length pc ∧ Rq (w3.setCell ⟨b, k, none⟩ (.slice (some ⟨rb, ro + 2, none⟩) (W - 1) (rc - 1))) w.heap.size r L' ∧ L'.length ≤ 16 ∧ ∀ i, i < L'.length → (L'.getD i []).length ≤ 64 := by
        by_cases hW2 : 2 ≤ W
        · have hl := hlk'.out
          have h0 := htl.out (by omega)
          rw [hl] at h0
          exact HSET.out _ _ h0 (fun q ⟨_, _, _, e⟩ => by cases e; rfl) (by rw [List.length_drop]; omega)
        · exact HSET.out _ [] (.inl ⟨_, _, by rw [show W - 1 = 0 by omega], rfl⟩) (fun q ⟨_, _, _, e⟩ => by cases e; rfl) (by simp)
      exact ⟨_, L', rfl, p1, p2, p3, hcu.out _, hon.out _⟩
  by_cases ht2 : t = 2
  · subst ht2
    have hlk : (L.getD k []).length = W := HALL.out k hklt
    obtain ⟨⟨hb1, hb2, hb3⟩, rb, ro, rc, hcell, hrow, ⟨hc1, hc2⟩, ⟨hr1, hr2, hr3⟩, x, y, z, hcx, hcy⟩ := HOP3.out.rq.row hklt (by omega)
    rw [hlk] at hcell hc1
    have keep : ∀ wa w4 : World, wa.heap = w3.heap → Only (fun j => g = j) wa w4 → w4.cell? ⟨b, k, none⟩ = some (.slice (some ⟨rb, ro, none⟩) W rc) ∧ w4.cell? ⟨rb, ro, none⟩ = some (.float .f32 x) ∧ w4.cell? ⟨rb, ro + 1, none⟩ = some (.complex .f32 y z) ∧ w4.frozen? ⟨rb, ro, none⟩ = false ∧ w4.frozen? ⟨rb, ro + 1, none⟩ = false ∧ Rq w4 w.heap.size (.slice (some ⟨b, 0, none⟩) L.length pc) L := by
      intro wa w4 he ho
      have hsz : w3.heap.size ≤ w4.heap.size := by rw [← he]; exact ho.size
      have hbk : ∀ q, w.heap.size ≤ q → q < w3.heap.size → w4.heap[q]? = w3.heap[q]? := fun q h1 h2 => (ho.block q (by rw [he]; exact h2) (by omega)).trans (by rw [he])
      refine ⟨?_, ?_, ?_, ?_, ?_, HOP3.out.rq.move hsz hbk⟩
      · rw [World.cell?_of_block (w := w3) (w' := w4) (a := ⟨b, k, none⟩) (hbk b hb1 hb2)]; exact hcell
      · rw [World.cell?_of_block (w := w3) (w' := w4) (a := ⟨rb, ro, none⟩) (hbk rb hr1 hr2)]; exact hcx
      · rw [World.cell?_of_block (w := w3) (w' := w4) (a := ⟨rb, ro + 1, none⟩) (hbk rb hr1 hr2)]; exact hcy
      · exact (hr3.move (hbk rb hr1 hr2)) ro
      · exact (hr3.move (hbk rb hr1 hr2)) (ro + 1)
    have KEEP := Lib.hid keep
    clear keep hrow hb3 hr3 hlk
    go_wp2_with fail
    go_region_with (refine (cell_any B g a n cap _ (by exact HC3.out)).mono ?_; rintro e w4 ⟨u1, u2, u3, rfl, hc, ho⟩; obtain ⟨q1, q2, q3, q4, q5, q6⟩ := KEEP.out _ _ (by rfl) ho; have HQ6 := Lib.hid q6; have HC4 := Lib.hid hc; have HO4 := Lib.hid ho; clear hc ho q6)
    all_goals
      have hd : Only (fun j => g = j) w w4 := (HO3.out.trans (c := w3.drew) ⟨rfl, rfl, rfl, Nat.le_refl _, fun _ _ _ => rfl⟩).trans HO4.out
      have hon := Lib.hid ((hd.setNew (p := ⟨rb, ro, none⟩) hr1 (.float .f32 u1)).setNew (p := ⟨rb, ro + 1, none⟩) hr1 (.complex .f32 u2 u3))
      have hcu := Lib.hid ((HC4.out.setOther (p := ⟨rb, ro, none⟩) (.float .f32 u1) (show rb ≠ g by omega) (show B ≤ rb by omega)).setOther (p := ⟨rb, ro + 1, none⟩) (.complex .f32 u2 u3) (show rb ≠ g by omega) (show B ≤ rb by omega))
      have hne : (⟨rb, ro, none⟩ : Addr) ≠ ⟨rb, ro + 1, none⟩ := fun e => by
        have : ro = ro + 1 := congrArg Addr.off e
        omega
      obtain ⟨L', hl1, hl2, hR⟩ := HQ6.out.typ ((Typ.setF q2 u1).trans (Typ.setC ((World.cell?_setCell_other _ _ _ _ hne).trans q3) u2 u3))
      obtain ⟨r, hr, hRr⟩ : ∃ r, r = Value.slice (some ⟨b, 0, none⟩) L.length pc ∧ Rq _ w.heap.size r L' := ⟨_, rfl, hR⟩
      have HR := Lib.hid hRr
      have HL := Lib.hid (show L'.length ≤ 16 ∧ ∀ i, i < L'.length → (L'.getD i []).length ≤ 64 from ⟨by omega, fun i hi => by rw [hl2 i (by omega), HALL.out i (by omega)]; omega⟩)
      have HRR := Lib.hid hr
      clear hd hne hR hRr hr hl1 hl2 HC4 HO4 HQ6 KEEP HC3 HOP3 HO3
      go_wp2
      go_ret
      exact ⟨_, L', rfl, by rw [← HRR.out]; exact HR.out, HL.out.1, HL.out.2, hcu.out, hon.out⟩
  by_cases ht3 : t = 3
  · subst ht3
    obtain ⟨us, hus, hou, hrr⟩ := HOP3.out
    have HRR := Lib.hid hrr
    have HUS := Lib.hid hus
    have HOU := Lib.hid hou
    have HNEW : Hid (∀ j u, us[j]? = some u → w3.cell? ((⟨b, 0, none⟩ : Addr).add j) = some u) := Lib.hid fun j u hu => World.ownsRow.cells hou rfl j u hu
    have H1 : Hid (∀ u ∈ us, u.oneCell' = true) := Lib.hid fun u hu => by
      obtain ⟨i, hi, rfl⟩ := List.mem_iff_getElem.1 hu
      obtain ⟨a', c', e⟩ := (hrr i (by omega)).1.form
      rw [show us.getD i undef = us[i] by simp [List.getD, hi]] at e
      rw [e]; rfl
    have hblt : w.heap.size ≤ b := (hou.lt b rfl).1
    have hs3 := HO3.out.size
    clear hrr hus hou HOP3
    go_wp2_with (at_builtin; refine wpList_append_at _ rfl _ _ 64 rfl w.heap.size 40 i1 (.slice none 0 0) 1 24 Try.underlying64 hi' hz0' hz1' hz2' rfl (by decide) _ L.length us rfl HOU.out ⟨b, 0, none⟩ L.length pc us rfl (by have := HUS.out; omega) HNEW.out H1.out (by unfold maxLen; omega) (by omega) (by omega) (by omega) ?_; intro v' w5 hown5 hgrow5 hat5)
    have hgrow5 : w3.grownBy w5 (some b) := hgrow5
    have h5 := Lib.hid (OP.twice (v := .slice (some ⟨b, 0, none⟩) L.length pc) HUS.out HRR.out hown5 hgrow5)
    have hc5 := Lib.hid (HC3.out.keep (Only.of_grown hgrow5) (fun e => by cases e; omega) (fun q e => by cases e; omega))
    have ho5 := Lib.hid (only_grow HO3.out hgrow5 (fun q e => by cases e; omega))
    clear hown5 hgrow5 hat5
    go_wp2
    go_ret
    exact ⟨_, L ++ L, rfl, h5.out, by rw [List.length_append]; omega, len_twice HALL.out (by omega), hc5.out, ho5.out⟩
  by_cases ht4 : t = 4
  · subst ht4
    have HC4 := Lib.hid (HC3.out.alloc HC3.out.lt (.cells #[] 40))
    have HO4 := Lib.hid (HO3.out.alloc (.cells #[] 40))
    go_wp2
    go_ret
    exact ⟨_, [], rfl, .inl ⟨rfl, _, _, rfl⟩, by simp, fun i hi => by simp at hi, HC4.out, HO4.out⟩
  · have hR := HOP3.out.rq
    have HR := Lib.hid hR
    clear hR
    go_wp2
    go_ret
    exact ⟨_, L, rfl, HR.out, by omega, len_all HALL.out (by omega), HC3.out, HO3.out⟩
end Go.Proofs.Ytbjllfnjecggfaa
