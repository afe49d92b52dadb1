/- Walk: IsPaired, the program's. -/
import Derived.Test.YtbjllfnjecggfaaZd
namespace Go.Proofs.Ytbjllfnjecggfaa
open Go.RowKit

/-- colours are equal -/
def ceq (x y : CV) : Bool := (FloatKind.f32.format.order x.2.1 y.2.1 == some .eq) && (FloatKind.f32.format.order x.2.2 y.2.2 == some .eq)
def prow (L : Pic) (r i : Nat) : Bool := ceq ((L.getD r []).getD i c0) ((L.getD (r + 2) []).getD i c0)
def prR (L : Pic) (r : Nat) : Bool := (List.range (L.getD r []).length).all (prow L r)
/-- is a picture paired? -/
def prB (L : Pic) : Bool := (List.range L.length).all fun r => decide (1 < r % 4) || prR L r
theorem range_all_succ {n : Nat} {p : Nat → Bool} : (List.range (n + 1)).all p = ((List.range n).all p && p n) := by
  rw [List.range_succ, List.all_append]; simp
theorem range_all_no {n j : Nat} {p : Nat → Bool} (hj : j < n) (h : p j = false) : (List.range n).all p = false := by
  rw [List.all_eq_false]
  exact ⟨j, List.mem_range.2 hj, by rw [h]; simp⟩
theorem rc_some {w : World} {a : Option Addr} {c : Nat} {l : List CV} (h : Rc w (.slice a l.length c) l) (h1 : 0 < l.length) :
    ∃ b off, a = some ⟨b, off, none⟩ ∧ ∀ j, j < l.length → w.cell? ⟨b, off + j * 2, none⟩ = some (.float .f32 (l.getD j c0).1) ∧ w.cell? ⟨b, off + j * 2 + 1, none⟩ = some (.complex .f32 (l.getD j c0).2.1 (l.getD j c0).2.2) := by
  rcases h with ⟨o, c', _, e⟩ | ⟨b, off, cap, e, _, _, hc⟩
  · subst e; simp at h1
  · cases e
    exact ⟨b, off, rfl, hc⟩
def IpPost (w : World) (q : Bool) (L : Pic) (e : Ending) (w' : World) : Prop := e = .returned (.bool (q && prB L)) ∧ Below w.heap.size w w'
set_option maxRecDepth 100000 in
set_option maxHeartbeats 2000000 in
theorem pairedI_any (v : Value) (L : Pic) (q : Bool) (w : World) (hR : Rp w v L) (hrow : ∀ i, i < L.length → (L.getD i []).length ≤ 1048576) (hq : picB L = q) :
    Calls Try.prog 74 #[v] w (IpPost w q L) := by
  have HP := Lib.hid (picI_any v L q w hR hrow hq)
  clear hrow
  cases q
  · obtain ⟨a, c, rfl⟩ := hR.form
    clear hR hq
    go_enter Try.func74, Try.ntmps74
    go_wp2_with fail
    refine HP.out.mono ?_
    rintro e w1 ⟨rfl, hb1⟩
    go_wp2
    go_ret
    exact ⟨rfl, hb1⟩
  · obtain ⟨⟨n1, n2⟩, n3, n4⟩ := picB_parts hq
    have N4 := Lib.hid n4
    have N3 := Lib.hid n3
    clear hq n4 n3
    rcases hR with ⟨e, _⟩ | ⟨b, off, cap, rfl, hc⟩
    · subst e; simp at n1
    have HC := Lib.hid hc
    obtain ⟨q, hqq⟩ : ∃ q, prB L = q := ⟨_, rfl⟩
    have HQ := Lib.hid hqq
    unfold IpPost
    rw [hqq, Bool.true_and]
    clear hc hqq
    go_enter Try.func74, Try.ntmps74
    go_wp2_with fail
    refine HP.out.mono ?_
    rintro e w1 ⟨rfl, hb1⟩
    clear HP
    go_wp2
    go_loopw [3, 4, 10, 21] (fun _ _ i _ wr => ∃ j : Nat, j ≤ L.length ∧ i = .int .i64 j ∧ Hid (((List.range j).all fun r => decide (1 < r % 4) || prR L r) = true) ∧ Below w.heap.size w wr) (fun _ _ i _ _ => L.length - (intOf i).toNat)
    case atStart => exact ⟨0, Nat.zero_le _, rfl, Lib.hid rfl, hb1⟩
    case round =>
      obtain ⟨j, hj, rfl, had, hbw⟩ := hrel
      by_cases hlt : j < L.length
      · have HS := Lib.hid (range_all_succ (n := j) (p := fun r => decide (1 < r % 4) || prR L r))
        have hm := mod4_nat j
        obtain ⟨t, ht⟩ : ∃ t, j % 4 = t := ⟨_, rfl⟩
        have hme : (j : Int) % 4 = (t : Int) := by omega
        rw [ht] at hm
        have HT := Lib.hid ht
        have ht3 : t ≤ 3 := by omega
        by_cases h1 : 1 < t
        · have hok : Hid (((List.range (j + 1)).all fun r => decide (1 < r % 4) || prR L r) = true) := Lib.hid (by
            rw [HS.out, had.out, HT.out, decide_eq_true h1]; rfl)
          clear ht
          go_wp2
          go_roundw
          case rel => exact ⟨j + 1, by omega, by go_num, hok, hbw⟩
          case measure => simp [intOf]; omega
        · have h1' : t ≤ 1 := by omega
          have hj2 : j + 2 < L.length := by have := N3.out; omega
          obtain ⟨a, c, g1, g2⟩ := HC.out j hlt
          obtain ⟨a', c', g3, g4⟩ := HC.out (j + 2) hj2
          obtain ⟨m1, m2⟩ := N4.out j hlt
          obtain ⟨m3, m4⟩ := N4.out (j + 2) hj2
          rw [← hbw.cell (p := ⟨b, off + j, none⟩) (World.block_lt_of_cell? _ _ g1)] at g1
          have g3' : wr.cell? ⟨b, off + (j + 2), none⟩ = _ := (hbw.cell (p := ⟨b, off + (j + 2), none⟩) (World.block_lt_of_cell? _ _ g3)).trans g3
          obtain ⟨k1, k2⟩ := rowB_len m1
          obtain ⟨k3, k4⟩ := rowB_len m3
          obtain ⟨b1, o1, rfl, f1⟩ := rc_some (g2.below hbw) (by omega)
          obtain ⟨b2, o2, rfl, f2⟩ := rc_some (g4.below hbw) (by omega)
          have F1 := Lib.hid f1
          have F2 := Lib.hid f2
          have G1 := Lib.hid g1
          have G3 := Lib.hid g3'
          have hll : (L.getD (j + 2) []).length = (L.getD j []).length := by omega
          have HPR : Hid (prR L j = (List.range (L.getD j []).length).all (prow L j)) := Lib.hid rfl
          have HPW : Hid (∀ i, prow L j i = ceq ((L.getD j []).getD i c0) ((L.getD (j + 2) []).getD i c0)) := Lib.hid fun _ => rfl
          rw [hll] at F2 G3
          clear g1 g2 g3 g3' g4 f1 f2 m1 m2 m3 m4 k3 k4 h1 ht hll
          obtain ⟨l, hl⟩ : ∃ l, l = L.getD j [] := ⟨_, rfl⟩
          obtain ⟨l2, hl2⟩ : ∃ l2, l2 = L.getD (j + 2) [] := ⟨_, rfl⟩
          rw [← hl] at k1 k2 F1 F2 G1 G3 HPR HPW
          rw [← hl2] at F2 HPW
          clear hl hl2
          have g1 := G1.out
          go_wp2
          go_loopw [4, 21] (fun _ i wi => ∃ n : Nat, n ≤ l.length ∧ i = .int .i64 n ∧ Hid ((List.range n).all (prow L j) = true) ∧ Below w.heap.size w wi ∧ Hid (Below wr.heap.size wr wi)) (fun _ i _ => l.length - (intOf i).toNat)
          case atStart => exact ⟨0, Nat.zero_le _, rfl, Lib.hid rfl, hbw, Lib.hid (Below.refl _ _)⟩
          case round =>
            rename World => wi
            obtain ⟨n, hn, rfl, had2, hbi, hbr⟩ := hrel
            by_cases hnl : n < l.length
            · have HS2 := Lib.hid (range_all_succ (n := n) (p := prow L j))
              have HW := Lib.hid (HPW.out n)
              obtain ⟨_, d1⟩ := F1.out n hnl
              obtain ⟨_, d2⟩ := F2.out n hnl
              rw [← hbr.out.cell (p := ⟨b1, o1 + n * 2 + 1, none⟩) (World.block_lt_of_cell? _ _ d1)] at d1
              rw [← hbr.out.cell (p := ⟨b2, o2 + n * 2 + 1, none⟩) (World.block_lt_of_cell? _ _ d2)] at d2
              have e1 := (hbr.out.cell (p := ⟨b, off + j, none⟩) (World.block_lt_of_cell? _ _ G1.out)).trans G1.out
              have e3 := (hbr.out.cell (p := ⟨b, off + (j + 2), none⟩) (World.block_lt_of_cell? _ _ G3.out)).trans G3.out
              generalize l.getD n c0 = x at *
              generalize l2.getD n c0 = y at *
              obtain ⟨x1, x2, x3⟩ := x
              obtain ⟨y1, y2, y3⟩ := y
              dsimp only at d1 d2
              unfold ceq at HW
              dsimp only at HW
              clear g1
              by_cases A : (FloatKind.f32.format.order x2 y2 == some .eq) = true
              · by_cases B : (FloatKind.f32.format.order x3 y3 == some .eq) = true
                · have hok : Hid ((List.range (n + 1)).all (prow L j) = true) := Lib.hid (by rw [HS2.out, had2.out, HW.out, A, B]; rfl)
                  go_wp2
                  go_region
                  go_wp2
                  go_roundw
                  case rel => exact ⟨n + 1, by omega, by go_num, hok, by repeat (first | exact hbi | refine Below.drew ?_ | refine below_drewN ?_ _), Lib.hid (by repeat (first | exact hbr.out | refine Below.drew ?_ | refine below_drewN ?_ _))⟩
                  case measure => simp [intOf]; omega
                · have B' : (FloatKind.f32.format.order x3 y3 == some .eq) = false := by simpa using B
                  clear B
                  have hqf : q = false := by
                    rw [← HQ.out]
                    exact range_all_no hlt (by rw [HT.out, HPR.out, range_all_no hnl (by rw [HW.out, A, B']; rfl), decide_eq_false (by omega)]; rfl)
                  subst hqf
                  go_wp2
                  go_region
                  go_wp2
                  go_ret
                  exact ⟨rfl, by repeat (first | exact hbi | refine Below.drew ?_ | refine below_drewN ?_ _)⟩
              · have A' : (FloatKind.f32.format.order x2 y2 == some .eq) = false := by simpa using A
                clear A
                have hqf : q = false := by
                  rw [← HQ.out]
                  exact range_all_no hlt (by rw [HT.out, HPR.out, range_all_no hnl (by rw [HW.out, A']; rfl), decide_eq_false (by omega)]; rfl)
                subst hqf
                go_wp2
                go_region
                go_wp2
                go_ret
                exact ⟨rfl, by repeat (first | exact hbi | refine Below.drew ?_ | refine below_drewN ?_ _)⟩
            · have hnl' : n = l.length := by omega
              subst hnl'
              have hok : Hid (((List.range (j + 1)).all fun r => decide (1 < r % 4) || prR L r) = true) := Lib.hid (by
                rw [HS.out, had.out, HPR.out, had2.out]; simp)
              clear g1
              go_wp2
              go_roundw
              case rel => exact ⟨j + 1, by omega, by go_num, hok, hbi⟩
              case measure => simp [intOf]; omega
      · have hje : j = L.length := by omega
        have hqt : q = true := by
          rw [← HQ.out]
          have := had.out
          rw [hje] at this
          exact this
        subst hqt
        clear hlt
        subst hje
        go_wp2
        go_ret
        exact ⟨rfl, hbw⟩
end Go.Proofs.Ytbjllfnjecggfaa
