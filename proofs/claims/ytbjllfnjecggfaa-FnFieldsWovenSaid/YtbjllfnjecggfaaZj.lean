/- Walk: two fields woven to a picture. -/
import Derived.Test.YtbjllfnjecggfaaZg
namespace Go.Proofs.Ytbjllfnjecggfaa
open Go.RowKit

/-- the rows of two fields by turns -/
def wvN (A C : Pic) (n : Nat) : Pic := (List.range n).flatMap fun i => [A.getD i [], C.getD i []]
theorem wvN_succ (A C : Pic) (n : Nat) : wvN A C (n + 1) = wvN A C n ++ [A.getD n [], C.getD n []] := by simp [wvN, List.range_succ]
theorem wvN_len (A C : Pic) : ∀ n, (wvN A C n).length = 2 * n
  | 0 => rfl
  | n + 1 => by rw [wvN_succ, List.length_append, wvN_len A C n]; simp; omega
theorem getD_app {α : Type} {l m : List α} {d : α} {i : Nat} : (l ++ m).getD i d = if i < l.length then l.getD i d else m.getD (i - l.length) d := by
  by_cases h : i < l.length
  · rw [if_pos h]; simp [List.getD, List.getElem?_append_left h]
  · rw [if_neg h]; simp [List.getD, List.getElem?_append_right (show l.length ≤ i by omega)]
theorem wvN_at (A C : Pic) : ∀ n i, i < 2 * n → (wvN A C n).getD i [] = if i % 2 = 0 then A.getD (i / 2) [] else C.getD (i / 2) []
  | 0, i, h => by omega
  | n + 1, i, h => by
    rw [wvN_succ, getD_app, wvN_len]
    by_cases h1 : i < 2 * n
    · rw [if_pos h1, wvN_at A C n i h1]
    · rw [if_neg h1]
      rcases (by omega : i = 2 * n ∨ i = 2 * n + 1) with e | e
      · subst e
        rw [if_pos (by omega), show 2 * n / 2 = n by omega, show 2 * n - 2 * n = 0 by omega]; rfl
      · subst e
        rw [if_neg (by omega), show (2 * n + 1) / 2 = n by omega, show 2 * n + 1 - 2 * n = 1 by omega]; rfl
theorem wvN_rows {A C : Pic} {n K : Nat} (hA : ∀ i, i < n → (A.getD i []).length ≤ K) (hC : ∀ i, i < n → (C.getD i []).length ≤ K) : ∀ i, i < (wvN A C n).length → ((wvN A C n).getD i []).length ≤ K := fun i hi => by
  rw [wvN_len] at hi
  rw [wvN_at A C n i hi]
  split
  · exact hA _ (by omega)
  · exact hC _ (by omega)
/-- a row that may be put into a picture -/
def Rin (w : World) (B : Nat) (v u : Value) (l : List CV) : Prop := Rc w u l ∧ ∀ k, inB u k → B ≤ k ∧ k < w.heap.size ∧ some k ≠ v.ownBlock ∧ Frz w k
theorem Rin.move {w w' : World} {B : Nat} {v v' u : Value} {l : List CV} (h : Rin w B v u l) (hs : w.heap.size ≤ w'.heap.size) (hm : ∀ k, B ≤ k → k < w.heap.size → some k ≠ v.ownBlock → w'.heap[k]? = w.heap[k]?) (hv : ∀ k, k < w.heap.size → some k = v'.ownBlock → some k = v.ownBlock) : Rin w' B v' u l := by
  refine ⟨h.1.move fun k hk hlt => hm k (h.2 k hk).1 hlt (h.2 k hk).2.2.1, fun k hk => ?_⟩
  obtain ⟨b1, b2, b3, b4⟩ := h.2 k hk
  exact ⟨b1, Nat.lt_of_lt_of_le b2 hs, fun e => b3 (hv k b2 e), b4.move (hm k b1 b2 b3)⟩
/-- rows more -/
theorem OP.app {w w' : World} {B : Nat} {o : Obj} {v v' : Value} {L M : Pic} {us ms : List Value} (hl : us.length = L.length) (hlm : ms.length = M.length)
    (hr : ∀ i, i < L.length → Rin w B v (us.getD i undef) (L.getD i [])) (hm : ∀ i, i < M.length → Rin w B v (ms.getD i undef) (M.getD i []))
    (hown : w'.ownsRow B 40 1 v' (L.length + M.length) (us ++ ms)) (hg : (w.alloc o).grownBy w' v.ownBlock) (hat : ∀ k, v'.ownBlock = some k → v.ownBlock = some k ∨ w.heap.size ≤ k) : OP w' B v' (L ++ M) := by
  have hs : w.heap.size ≤ w'.heap.size := Nat.le_trans (by simp) hg.size
  have step : ∀ x : Value, ∀ y : List CV, Rin w B v x y → Rin w' B v' x y := fun x y h => h.move hs (fun k _ hk hn => by rw [hg.block k (by simp; omega) hn, Below.heap_alloc _ _ _ hk]) (fun k hk e => by
    rcases hat k e.symm with h | h
    · exact h.symm
    · omega)
  refine ⟨us ++ ms, by simp [hl, hlm], by rw [List.length_append]; exact hown, fun i hi => ?_⟩
  rw [getD_app, getD_app, hl]
  rw [List.length_append] at hi
  by_cases h : i < L.length
  · rw [if_pos h, if_pos h]; exact step _ _ (hr i h)
  · rw [if_neg h, if_neg h]; exact step _ _ (hm (i - L.length) (by omega))
/-- a row that was cloned -/
theorem rin_oc {w w' wz : World} {B : Nat} {v u : Value} {l : List CV} (h : Oc w' w.heap.size u l) (hB : B ≤ w.heap.size) (hv : ∀ k, v.ownBlock = some k → k < w.heap.size) (hb : Below w'.heap.size w' wz) : Rin wz B v u l := by
  refine ⟨h.rc.below hb, fun k hk => ?_⟩
  obtain ⟨h1, h2, h3⟩ := oc_in h k hk
  exact ⟨Nat.le_trans hB h1, Nat.lt_of_lt_of_le h2 hb.size, fun e => by have := hv k e.symm; omega, h3.move (hb.block k h2)⟩
theorem one_two {a b : Value} (ha : a.oneCell' = true) (hb : b.oneCell' = true) : ∀ u ∈ [a, b], u.oneCell' = true := by
  intro u hu
  simp at hu
  rcases hu with rfl | rfl
  · exact ha
  · exact hb
theorem rc_one {w : World} {u : Value} {l : List CV} (h : Rc w u l) : u.oneCell' = true := by
  obtain ⟨a, c, rfl⟩ := h.form
  rfl
theorem cells_two_at (w : World) (x y : Value) (e : Nat) : ∀ j u, ([x, y] : List Value)[j]? = some u → (w.alloc (.cells #[x, y] e)).cell? ((⟨w.heap.size, 0, none⟩ : Addr).add j) = some u := by
  intro j u hu
  match j with
  | 0 => simp at hu; subst hu; rw [Addr.add_lit]; simp
  | 1 => simp at hu; subst hu; rw [Addr.add_lit]; simp
  | j + 2 => simp at hu
def WvPost (w : World) (q : Bool) (L : Pic) (e : Ending) (w' : World) : Prop :=
  ∃ r, e = .returned (.tuple #[r, .bool q]) ∧ OP w' w.heap.size r (if q = true then L else []) ∧ Below w.heap.size w w'
set_option maxRecDepth 100000 in
set_option maxHeartbeats 4000000 in
theorem weaveI_any (v1 v2 : Value) (A C : Pic) (n : Nat) (q : Bool) (w : World) (h1 : Rp w v1 A) (h2 : Rp w v2 C) (hA : A.length = n) (hC : C.length = n) (hn : n ≤ 64)
    (rA : ∀ i, i < n → (A.getD i []).length ≤ 1048576) (rC : ∀ i, i < n → (C.getD i []).length ≤ 1048576) (hq : picB (wvN A C n) = q) :
    Calls Try.prog 79 #[v1, v2] w (WvPost w q (wvN A C n)) := by
  obtain ⟨i1, hi', hz0', hz1', hz2'⟩ := info_parts infoR
  have HQ := Lib.hid hq
  have RA := Lib.hid rA
  have RC := Lib.hid rC
  obtain ⟨a1, c1, rfl⟩ := h1.form
  obtain ⟨a2, c2, rfl⟩ := h2.form
  have H1 := Lib.hid h1
  have H2 := Lib.hid h2
  rw [hA] at H1
  rw [hC] at H2
  have HA := Lib.hid hA
  have HCC := Lib.hid hC
  rw [hA, hC]
  clear h1 h2 hq rA rC hA hC
  go_enter Try.func79, Try.ntmps79
  go_wp2
  go_loopw [6, 7, 15] (fun o _ iv wr => ∃ m : Nat, m ≤ n ∧ iv = .int .i64 m ∧ Hid (OP wr w.heap.size o (wvN A C m)) ∧ Hid (Below w.heap.size w wr)) (fun _ _ iv _ => n - (intOf iv).toNat)
  case atStart => exact ⟨0, Nat.zero_le _, rfl, Lib.hid (OP.nil _ _), Lib.hid (Below.refl _ _)⟩
  case round =>
    obtain ⟨m, hm, rfl, HO, HB⟩ := hrel
    have hbs := HB.out.size
    by_cases hlt : m < n
    · obtain ⟨b1, o1, k1, x1, y1, e1, g1, t1⟩ := rp_at H1.out (i := m) (by rw [HA.out]; exact hlt)
      obtain ⟨b2, o2, k2, x2, y2, e2, g2, t2⟩ := rp_at H2.out (i := m) (by rw [HCC.out]; exact hlt)
      obtain ⟨rfl, rfl⟩ : a1 = some ⟨b1, o1, none⟩ ∧ c1 = k1 := by rw [HA.out] at e1; injection e1 with i1 i2 i3; exact ⟨i1, i3⟩
      obtain ⟨rfl, rfl⟩ : a2 = some ⟨b2, o2, none⟩ ∧ c2 = k2 := by rw [HCC.out] at e2; injection e2 with i1 i2 i3; exact ⟨i1, i3⟩
      clear e1 e2
      have HL := Lib.hid (wvN_succ A C m)
      have HN := Lib.hid (wvN_len A C m)
      have l1s := RA.out m hlt
      have l2s := RC.out m hlt
      obtain ⟨l1, hl1⟩ : ∃ l1, A.getD m [] = l1 := ⟨_, rfl⟩
      obtain ⟨l2, hl2⟩ : ∃ l2, C.getD m [] = l2 := ⟨_, rfl⟩
      rw [hl1] at g1 t1 HL l1s
      rw [hl2] at g2 t2 HL l2s
      clear hl1 hl2
      obtain ⟨ra, hra⟩ : ∃ ra, ra = Value.slice x1 l1.length y1 := ⟨_, rfl⟩
      obtain ⟨rb, hrb⟩ : ∃ rb, rb = Value.slice x2 l2.length y2 := ⟨_, rfl⟩
      rw [← hra] at g1 t1
      rw [← hrb] at g2 t2
      clear hra hrb
      have KEEP : Hid (∀ wx : World, Below w.heap.size w wx → wx.cell? ⟨b1, o1 + m, none⟩ = some ra ∧ wx.cell? ⟨b2, o2 + m, none⟩ = some rb ∧ Rc wx ra l1 ∧ Rc wx rb l2) := Lib.hid fun wx hb =>
        ⟨(hb.cell (p := ⟨b1, o1 + m, none⟩) (World.block_lt_of_cell? _ _ g1)).trans g1, (hb.cell (p := ⟨b2, o2 + m, none⟩) (World.block_lt_of_cell? _ _ g2)).trans g2, t1.below hb, t2.below hb⟩
      obtain ⟨ca0, cb0, _, _⟩ := KEEP.out wr HB.out
      have hbase := Lib.hid (show Below w.heap.size w wr.drew from HB.out.drew)
      obtain ⟨us, hus, hou, hrr⟩ := HO.out
      have HUS := Lib.hid hus
      have HOU := Lib.hid hou
      have HRR : Hid (∀ i, i < (wvN A C m).length → Rin wr w.heap.size u6 (us.getD i undef) ((wvN A C m).getD i [])) := Lib.hid hrr
      have HOB : Hid (∀ k, u6.ownBlock = some k → w.heap.size ≤ k ∧ k < wr.heap.size) := Lib.hid fun k hk => hou.lt k hk
      obtain ⟨N, hN⟩ : ∃ N, N = (wvN A C m).length := ⟨_, rfl⟩
      rw [← hN] at HN HOU
      have hN2 : N ≤ 128 := by have := HN.out; omega
      have HNN := Lib.hid hN
      clear g1 g2 t1 t2 hus hou hrr HO hN
      go_wp2
      go_region_law (first
        | (refine step_append_at _ rfl (.tmp 18) (.tmp 29) 64 rfl w.heap.size 40 i1 (.slice none 0 0) 1 24 Try.underlying64 hi' hz0' hz1' hz2' rfl (by decide) u6 N us rfl (own_below HOZ.out ((Below.refl _ _).alloc (Nat.le_refl _) _)) ⟨wz.heap.size, 0, none⟩ 2 2 [.slice p1 l1.length p2, .slice q1 l2.length q2] rfl rfl (cells_two_at wz (.slice p1 l1.length p2) (.slice q1 l2.length q2) _) (one_two HOA.out HOB2.out) (by unfold maxLen; omega) (by omega) (by have := HZ.out.size; simp; omega) (by omega) ?_; intro v' w5 hown5 hgrow5 hat5)
        | (go_simp; go_at_call_of 105 rb; refine (cloneC_any rb l2 _ (KEEP.out _ HBA.out).2.2.2 l2s).mono ?_; rintro e wz ⟨ub, rfl, hub, hbz⟩
           obtain ⟨q1, q2, rfl⟩ := hub.rc.form
           have hbw := HBA.out
           have HZ := Lib.hid (hbw.trans (hbz.mono hbw.size))
           have HRA : Hid (Rin wz w.heap.size u6 (.slice p1 l1.length p2) l1) := Lib.hid (rin_oc HUA.out hbs (fun k hk => (HOB.out k hk).2) hbz)
           have HRB : Hid (Rin wz w.heap.size u6 (.slice q1 l2.length q2) l2) := Lib.hid (rin_oc hub hbw.size (fun k hk => Nat.lt_of_lt_of_le (HOB.out k hk).2 HWA.out.size) (Below.refl _ _))
           have HWZ : Hid (Below wr.heap.size wr wz) := Lib.hid (HWA.out.trans (hbz.mono HWA.out.size))
           have HOA := Lib.hid (rc_one HUA.out.rc)
           have HOB2 := Lib.hid (rc_one hub.rc)
           have HOZ : Hid (wz.ownsRow w.heap.size 40 1 u6 N us) := Lib.hid (own_below HOU.out HWZ.out)
           clear hub hbz hbw)
        | (go_simp; go_at_call_of 105 ra; refine (cloneC_any ra l1 _ (KEEP.out _ HBB.out).2.2.1 l1s).mono ?_; rintro e wz ⟨ua, rfl, hua, hbz⟩
           obtain ⟨p1, p2, rfl⟩ := hua.rc.form
           have hbw := HBB.out
           have HZ := Lib.hid (hbw.trans (hbz.mono hbw.size))
           have HRA : Hid (Rin wz w.heap.size u6 (.slice p1 l1.length p2) l1) := Lib.hid (rin_oc hua hbw.size (fun k hk => Nat.lt_of_lt_of_le (HOB.out k hk).2 HWB.out.size) (Below.refl _ _))
           have HRB : Hid (Rin wz w.heap.size u6 (.slice q1 l2.length q2) l2) := Lib.hid (rin_oc HUB.out hbs (fun k hk => (HOB.out k hk).2) hbz)
           have HWZ : Hid (Below wr.heap.size wr wz) := Lib.hid (HWB.out.trans (hbz.mono HWB.out.size))
           have HOA := Lib.hid (rc_one hua.rc)
           have HOB2 := Lib.hid (rc_one HUB.out.rc)
           have HOZ : Hid (wz.ownsRow w.heap.size 40 1 u6 N us) := Lib.hid (own_below HOU.out HWZ.out)
           clear hua hbz hbw)
        | (go_simp; go_at_call_of 105 ra; refine (cloneC_any ra l1 _ (KEEP.out _ hbase.out).2.2.1 l1s).mono ?_; rintro e wa ⟨ua, rfl, hua, hbz⟩
           obtain ⟨p1, p2, rfl⟩ := hua.rc.form
           have hbw := hbase.out
           have HBA := Lib.hid (hbw.trans (hbz.mono hbw.size))
           have HUA : Hid (Oc wa wr.heap.size (.slice p1 l1.length p2) l1) := Lib.hid hua
           have HWA : Hid (Below wr.heap.size wr wa) := Lib.hid ((Below.refl _ wr).drew.trans hbz)
           obtain ⟨ca1, cb1, _, _⟩ := KEEP.out _ HBA.out
           clear hua hbz hbw)
        | (go_simp; go_at_call_of 105 rb; refine (cloneC_any rb l2 _ (KEEP.out _ hbase.out).2.2.2 l2s).mono ?_; rintro e wb ⟨ub, rfl, hub, hbz⟩
           obtain ⟨q1, q2, rfl⟩ := hub.rc.form
           have hbw := hbase.out
           have HBB := Lib.hid (hbw.trans (hbz.mono hbw.size))
           have HUB : Hid (Oc wb wr.heap.size (.slice q1 l2.length q2) l2) := Lib.hid hub
           have HWB : Hid (Below wr.heap.size wr wb) := Lib.hid ((Below.refl _ wr).drew.trans hbz)
           obtain ⟨ca1, cb1, _, _⟩ := KEEP.out _ HBB.out
           clear hub hbz hbw))
      all_goals
        have hgrow5 : (wz.alloc (.cells #[.slice p1 l1.length p2, .slice q1 l2.length q2] 40)).grownBy w5 u6.ownBlock := hgrow5
        have hop5 : Hid (OP w5 w.heap.size v' (wvN A C (m + 1))) := Lib.hid (by
          rw [HL.out]
          refine OP.app (w := wz) (us := us) (ms := [.slice p1 l1.length p2, .slice q1 l2.length q2]) (v := u6) HUS.out rfl (fun i hi => (HRR.out i hi).move HWZ.out.size (fun k _ hk _ => HWZ.out.block k hk) (fun k _ e => e)) (fun i hi => ?_) (by rw [← HNN.out]; exact hown5) hgrow5 fun k hk => ?_
          · match i, hi with
            | 0, _ => exact HRA.out
            | 1, _ => exact HRB.out
          · rcases hat5 k hk with h | h
            · exact .inl h
            · right
              have : wz.heap.size + 1 ≤ k := by simpa using h
              omega)
        have hb5 : Hid (Below w.heap.size w w5) := Lib.hid (Below.grown (HZ.out.alloc HZ.out.size _) hgrow5 (by have := HZ.out.size; simp; omega) (fun k hk => (HOB.out k hk).1))
        clear hown5 hgrow5 hat5 HRA HRB HRR HUS HNN HZ HWZ HOZ KEEP HOU
        go_wp2
        go_roundw
        case rel => exact ⟨m + 1, by omega, by go_num, hop5, hb5⟩
        case measure => simp [intOf]; omega
    · have hme : m = n := by omega
      subst hme
      go_wp2_with fail
      refine (picI_any _ (wvN A C m) q _ HO.out.rp (wvN_rows RA.out RC.out) HQ.out).mono ?_
      rintro e w3 ⟨rfl, hb⟩
      have B3 := Lib.hid (HB.out.trans (hb.mono HB.out.size))
      have O3 := Lib.hid (HO.out.below hb)
      clear hb HO HB
      cases q
      · have hb3 := B3.out
        go_wp2
        go_ret2
        exact ⟨_, rfl, OP.nil _ _, hb3⟩
      · have hb3 := B3.out
        have ho3 := O3.out
        go_wp2
        go_ret2
        exact ⟨_, rfl, ho3, hb3⟩
end Go.Proofs.Ytbjllfnjecggfaa
