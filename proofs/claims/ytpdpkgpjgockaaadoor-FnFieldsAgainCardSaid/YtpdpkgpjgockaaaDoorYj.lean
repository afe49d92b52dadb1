/- Walk: the drawing of a line. -/
import Derived.Test.YtpdpkgpjgockaaaDoorVg
import Derived.Test.YtpdpkgpjgockaaaDoorFi
namespace Go.Proofs.YtpdpkgpjgockaaaDoor
open Go.RowKit

theorem long32 (n : Nat) (w : World) (hn : n ≤ 1048576) : Calls Tryd.prog 37 #[.int .i64 n, .int .u8 32] w fun e w' => ∃ s : ByteArray, e = .returned (.string s) ∧ s.size = n ∧ Below w.heap.size w w' := long_any n 32 w hn
theorem small_mul {x y : Int} (x0 : 0 ≤ x) (x1 : x ≤ 1) (y0 : 0 ≤ y) (y1 : y ≤ 2) : ∃ t : Nat, x * y = (t : Int) ∧ t ≤ 2 := by
  have hx : x = 0 ∨ x = 1 := by omega
  rcases hx with rfl | rfl
  · exact ⟨0, by simp, by omega⟩
  · exact ⟨y.toNat, by omega, by omega⟩
set_option maxRecDepth 100000 in
set_option maxHeartbeats 2000000 in
theorem drawSplit (a : Option Addr) (n cap : Nat) (w : World) (hB : By w.heap.size w a n) (hn : n ≤ 1048576) :
    Calls Tryd.prog 21 #[.slice a n cap] w (TxPost w 2000) := by
  go_enter Tryd.func21, Tryd.ntmps21
  go_wp2_with fail
  refine (new_any w.heap.size a n cap w hB hn (Nat.le_refl _)).mono ?_
  rintro e w1 ⟨g, rfl, hc, hg1, hg2, hb1⟩
  have HC := Lib.hid hc
  clear hc hB
  go_wp2_with fail
  refine (below_any _ g a n cap _ _ HC.out (by omega) (by omega)).mono ?_
  rintro e w2 ⟨x, rfl, x0, x1, hc, ho⟩
  rw [if_neg (by omega)] at x1
  have HC2 := Lib.hid hc
  have HB2 := Lib.hid (show Below w.heap.size w w2 from hb1.trans (below_of_only ho hb1.size (fun k hk => by omega)))
  clear hc ho HC hb1
  go_wp2_with fail
  refine (once_any _ g a n cap _ _ HC2.out (by omega) (by omega)).mono ?_
  rintro e w3 ⟨b, rfl, hc, ho⟩
  have HC3 := Lib.hid hc
  have HB3 := Lib.hid (HB2.out.trans (below_of_only ho HB2.out.size (fun k hk => by omega)))
  clear hc ho HC2 HB2
  cases b
  · obtain ⟨m, rfl⟩ : ∃ m : Nat, x = (m : Int) := ⟨x.toNat, by omega⟩
    have hm : m ≤ 25 := by omega
    clear x0 x1
    go_wp2
    go_loopw [5, 6, 7] (fun s i _ wr => ∃ (j : Nat) (S : ByteArray), j ≤ m ∧ i = .int .i64 j ∧ s = .string S ∧ S.size ≤ 8 * j ∧ Hid (Cur w.heap.size wr g a n cap) ∧ Hid (Below w.heap.size w wr)) (fun _ i _ _ => m - (intOf i).toNat)
    case atStart => exact ⟨0, ByteArray.empty, Nat.zero_le _, rfl, rfl, by simp, HC3, HB3⟩
    case round =>
      obtain ⟨j, S, hj, rfl, rfl, hS, hcu, hbe⟩ := hrel
      rename World => wo
      by_cases hlt : j < m
      · by_cases hj0 : j = 0
        · subst hj0
          go_wp2_with fail
          refine (once_any _ g a n cap _ _ hcu.out (by omega) (by omega)).mono ?_
          rintro e w5 ⟨b5, rfl, hc, ho⟩
          have HC5 := Lib.hid hc
          have HB5 := Lib.hid (hbe.out.trans (below_of_only ho hbe.out.size (fun k hk => by omega)))
          clear hc ho hcu hbe
          cases b5
          · obtain ⟨S1, hS1⟩ : ∃ q, q = S := ⟨_, rfl⟩
            have hS8 : S1.size ≤ 3 := by rw [hS1]; omega
            rw [← hS1]
            clear hS1 hS
            have HC8 := HC5
            have HB8 := HB5
            clear HC5 HB5
            go_wp2
            go_loopw [5, 7] (fun s k wr => ∃ (q : Nat) (T : ByteArray), q ≤ 5 ∧ k = .int .i64 q ∧ s = .string T ∧ T.size ≤ S1.size + q ∧ Hid (Cur w.heap.size wr g a n cap) ∧ Hid (Below w.heap.size w wr)) (fun _ k _ => 5 - (intOf k).toNat)
            case atStart => exact ⟨0, S1, Nat.zero_le _, rfl, rfl, Nat.le_refl _, HC8, HB8⟩
            case round =>
              obtain ⟨q, T, hq, rfl, rfl, hT, hcu, hbe⟩ := hrel
              go_wp2_with fail
              refine (below_any _ g a n cap _ _ hcu.out (by omega) (by omega)).mono ?_
              rintro e w9 ⟨x9, rfl, x90, x91, hc, ho⟩
              rw [if_neg (by omega)] at x91
              have HC9 := Lib.hid hc
              have HB9 := Lib.hid (hbe.out.trans (below_of_only ho hbe.out.size (fun k hk => by omega)))
              clear hc ho hcu hbe
              by_cases hqx : (q : Int) ≤ x9
              · go_wp2_with fail
                refine (below_any _ g a n cap _ _ HC9.out (by omega) (by omega)).mono ?_
                rintro e w10 ⟨y9, rfl, y90, y91, hc, ho⟩
                rw [if_neg (by omega)] at y91
                have hlt10 := hc.lt
                have HC10 := Lib.hid (hc.alloc hlt10 (.cells #[.int .u8 (33 + y9)] 5))
                have hb10 := HB9.out.trans (below_of_only ho HB9.out.size (fun k hk => by omega))
                have HB10 := Lib.hid (hb10.alloc hb10.size (.cells #[.int .u8 (33 + y9)] 5))
                clear hc ho HC9 HB9 hb10
                obtain ⟨c, hcc⟩ := byte_of (33 + y9) (by omega) (by omega)
                have hcv := conv1 w10 c
                rw [hcc] at hcv
                clear hcc
                go_wp2
                go_roundw
                case rel => exact ⟨q + 1, _, by omega, by go_num, rfl, by rw [ByteArray.size_append]; show T.size + 1 ≤ _; omega, HC10, HB10⟩
                case measure => simp [intOf]; omega
              · have hqx' : x9 < (q : Int) := by omega
                clear hqx
                go_wp2
                go_roundw
                case rel => exact ⟨0 + 1, T, by omega, by go_num, rfl, by omega, HC9, HB9⟩
                case measure => simp [intOf]; omega
          · skip
            go_wp2_with fail
            refine (below_any _ g a n cap _ _ HC5.out (by omega) (by omega)).mono ?_
            rintro e w6 ⟨p, rfl, p0, p1, hc, ho⟩
            rw [if_neg (by omega)] at p1
            have HC6 := Lib.hid hc
            have HB6 := Lib.hid (HB5.out.trans (below_of_only ho HB5.out.size (fun k hk => by omega)))
            clear hc ho HC5 HB5
            go_wp2_with fail
            refine (below_any _ g a n cap _ _ HC6.out (by omega) (by omega)).mono ?_
            rintro e w7 ⟨q, rfl, q0, q1, hc, ho⟩
            rw [if_neg (by omega)] at q1
            have HC7 := Lib.hid hc
            have HB7 := Lib.hid (HB6.out.trans (below_of_only ho HB6.out.size (fun k hk => by omega)))
            clear hc ho HC6 HB6
            obtain ⟨t, ht, ht2⟩ := small_mul p0 p1 q0 q1
            obtain ⟨t1, ht1⟩ : ∃ t1 : Nat, 1 + (t : Int) = (t1 : Int) := ⟨1 + t, by omega⟩
            have ht13 : t1 ≤ 3 := by omega
            have HL := Lib.hid (long32 t1 w7 (by omega))
            go_wp2_with fail
            refine HL.out.mono ?_
            rintro e w8 ⟨s, rfl, hs, hb⟩
            have HC8 := Lib.hid (HC7.out.below hb HB7.out.size)
            have HB8 := Lib.hid (HB7.out.trans (hb.mono HB7.out.size))
            clear hb HC7 HB7 HL
            obtain ⟨S1, hS1⟩ : ∃ r, r = S ++ s := ⟨_, rfl⟩
            have hS8 : S1.size ≤ 8 * 0 + 3 := by rw [hS1, ByteArray.size_append]; omega
            go_wp2
            try rw [← hS1]
            clear hS1 hS hs ht ht1
            go_loopw [5, 7] (fun s k wr => ∃ (q : Nat) (T : ByteArray), q ≤ 5 ∧ k = .int .i64 q ∧ s = .string T ∧ T.size ≤ S1.size + q ∧ Hid (Cur w.heap.size wr g a n cap) ∧ Hid (Below w.heap.size w wr)) (fun _ k _ => 5 - (intOf k).toNat)
            case atStart => exact ⟨0, S1, Nat.zero_le _, rfl, rfl, Nat.le_refl _, HC8, HB8⟩
            case round =>
              obtain ⟨q, T, hq, rfl, rfl, hT, hcu, hbe⟩ := hrel
              go_wp2_with fail
              refine (below_any _ g a n cap _ _ hcu.out (by omega) (by omega)).mono ?_
              rintro e w9 ⟨x9, rfl, x90, x91, hc, ho⟩
              rw [if_neg (by omega)] at x91
              have HC9 := Lib.hid hc
              have HB9 := Lib.hid (hbe.out.trans (below_of_only ho hbe.out.size (fun k hk => by omega)))
              clear hc ho hcu hbe
              by_cases hqx : (q : Int) ≤ x9
              · go_wp2_with fail
                refine (below_any _ g a n cap _ _ HC9.out (by omega) (by omega)).mono ?_
                rintro e w10 ⟨y9, rfl, y90, y91, hc, ho⟩
                rw [if_neg (by omega)] at y91
                have hlt10 := hc.lt
                have HC10 := Lib.hid (hc.alloc hlt10 (.cells #[.int .u8 (33 + y9)] 5))
                have hb10 := HB9.out.trans (below_of_only ho HB9.out.size (fun k hk => by omega))
                have HB10 := Lib.hid (hb10.alloc hb10.size (.cells #[.int .u8 (33 + y9)] 5))
                clear hc ho HC9 HB9 hb10
                obtain ⟨c, hcc⟩ := byte_of (33 + y9) (by omega) (by omega)
                have hcv := conv1 w10 c
                rw [hcc] at hcv
                clear hcc
                go_wp2
                go_roundw
                case rel => exact ⟨q + 1, _, by omega, by go_num, rfl, by rw [ByteArray.size_append]; show T.size + 1 ≤ _; omega, HC10, HB10⟩
                case measure => simp [intOf]; omega
              · have hqx' : x9 < (q : Int) := by omega
                clear hqx
                go_wp2
                go_roundw
                case rel => exact ⟨0 + 1, T, by omega, by go_num, rfl, by omega, HC9, HB9⟩
                case measure => simp [intOf]; omega
        · have hj1 : 0 < j := by omega
          have HC5 := hcu
          have HB5 := hbe
          clear hcu hbe hj0
          go_wp2_with fail
          refine (below_any _ g a n cap _ _ HC5.out (by omega) (by omega)).mono ?_
          rintro e w6 ⟨p, rfl, p0, p1, hc, ho⟩
          rw [if_neg (by omega)] at p1
          have HC6 := Lib.hid hc
          have HB6 := Lib.hid (HB5.out.trans (below_of_only ho HB5.out.size (fun k hk => by omega)))
          clear hc ho HC5 HB5
          go_wp2_with fail
          refine (below_any _ g a n cap _ _ HC6.out (by omega) (by omega)).mono ?_
          rintro e w7 ⟨q, rfl, q0, q1, hc, ho⟩
          rw [if_neg (by omega)] at q1
          have HC7 := Lib.hid hc
          have HB7 := Lib.hid (HB6.out.trans (below_of_only ho HB6.out.size (fun k hk => by omega)))
          clear hc ho HC6 HB6
          obtain ⟨t, ht, ht2⟩ := small_mul p0 p1 q0 q1
          obtain ⟨t1, ht1⟩ : ∃ t1 : Nat, 1 + (t : Int) = (t1 : Int) := ⟨1 + t, by omega⟩
          have ht13 : t1 ≤ 3 := by omega
          have HL := Lib.hid (long32 t1 w7 (by omega))
          go_wp2_with fail
          refine HL.out.mono ?_
          rintro e w8 ⟨s, rfl, hs, hb⟩
          have HC8 := Lib.hid (HC7.out.below hb HB7.out.size)
          have HB8 := Lib.hid (HB7.out.trans (hb.mono HB7.out.size))
          clear hb HC7 HB7 HL
          obtain ⟨S1, hS1⟩ : ∃ r, r = S ++ s := ⟨_, rfl⟩
          have hS8 : S1.size ≤ 8 * j + 3 := by rw [hS1, ByteArray.size_append]; omega
          go_wp2
          try rw [← hS1]
          clear hS1 hS hs ht ht1
          go_loopw [5, 7] (fun s k wr => ∃ (q : Nat) (T : ByteArray), q ≤ 5 ∧ k = .int .i64 q ∧ s = .string T ∧ T.size ≤ S1.size + q ∧ Hid (Cur w.heap.size wr g a n cap) ∧ Hid (Below w.heap.size w wr)) (fun _ k _ => 5 - (intOf k).toNat)
          case atStart => exact ⟨0, S1, Nat.zero_le _, rfl, rfl, Nat.le_refl _, HC8, HB8⟩
          case round =>
            obtain ⟨q, T, hq, rfl, rfl, hT, hcu, hbe⟩ := hrel
            go_wp2_with fail
            refine (below_any _ g a n cap _ _ hcu.out (by omega) (by omega)).mono ?_
            rintro e w9 ⟨x9, rfl, x90, x91, hc, ho⟩
            rw [if_neg (by omega)] at x91
            have HC9 := Lib.hid hc
            have HB9 := Lib.hid (hbe.out.trans (below_of_only ho hbe.out.size (fun k hk => by omega)))
            clear hc ho hcu hbe
            by_cases hqx : (q : Int) ≤ x9
            · go_wp2_with fail
              refine (below_any _ g a n cap _ _ HC9.out (by omega) (by omega)).mono ?_
              rintro e w10 ⟨y9, rfl, y90, y91, hc, ho⟩
              rw [if_neg (by omega)] at y91
              have hlt10 := hc.lt
              have HC10 := Lib.hid (hc.alloc hlt10 (.cells #[.int .u8 (33 + y9)] 5))
              have hb10 := HB9.out.trans (below_of_only ho HB9.out.size (fun k hk => by omega))
              have HB10 := Lib.hid (hb10.alloc hb10.size (.cells #[.int .u8 (33 + y9)] 5))
              clear hc ho HC9 HB9 hb10
              obtain ⟨c, hcc⟩ := byte_of (33 + y9) (by omega) (by omega)
              have hcv := conv1 w10 c
              rw [hcc] at hcv
              clear hcc
              go_wp2
              go_roundw
              case rel => exact ⟨q + 1, _, by omega, by go_num, rfl, by rw [ByteArray.size_append]; show T.size + 1 ≤ _; omega, HC10, HB10⟩
              case measure => simp [intOf]; omega
            · have hqx' : x9 < (q : Int) := by omega
              clear hqx
              go_wp2
              go_roundw
              case rel => exact ⟨j + 1, T, by omega, by go_num, rfl, by omega, HC9, HB9⟩
              case measure => simp [intOf]; omega
      · have hjm : j = m := by omega
        subst hjm
        go_wp2_with fail
        refine (below_any _ g a n cap _ _ hcu.out (by omega) (by omega)).mono ?_
        rintro e w5 ⟨z, rfl, z0, z1, hc, ho⟩
        rw [if_neg (by omega)] at z1
        have HC5 := Lib.hid hc
        have HB5 := Lib.hid (hbe.out.trans (below_of_only ho hbe.out.size (fun k hk => by omega)))
        clear hc ho hcu hbe
        have hz : z = 0 ∨ z = 1 ∨ 2 ≤ z := by omega
        rcases hz with rfl | rfl | hz
        · have hlt5 := HC5.out.lt
          go_wp2_with fail
          refine (pickS_any _ g a n cap w5.heap.size 6 _ (HC5.out.alloc hlt5 _) (by omega) (by omega) (by omega) (cells_strs w5 [⟨#[32]⟩, ⟨#[32, 32]⟩, ⟨#[9]⟩, ⟨#[10]⟩, ⟨#[127]⟩, ⟨#[233]⟩] 9 (by decide))).mono ?_
          rintro e w6 ⟨s, rfl, hs, hc, ho⟩
          have hba := HB5.out.alloc HB5.out.size (.cells #[.string ⟨#[32]⟩, .string ⟨#[32, 32]⟩, .string ⟨#[9]⟩, .string ⟨#[10]⟩, .string ⟨#[127]⟩, .string ⟨#[233]⟩] 9)
          have hb6 : Below w.heap.size w w6 := hba.trans (below_of_only ho hba.size (fun k hk => by omega))
          clear hc ho hba
          go_wp2
          go_ret
          exact ⟨_, rfl, by rw [ByteArray.size_append]; omega, hb6⟩
        · have hl600 : decide ((S.size : Int) < 600) = true := decide_eq_true (by omega)
          go_wp2_with fail
          refine (below_any _ g a n cap _ _ HC5.out (by omega) (by omega)).mono ?_
          rintro e w6 ⟨y, rfl, y0, y1, hc, ho⟩
          rw [if_neg (by omega)] at y1
          have HB6 := Lib.hid (HB5.out.trans (below_of_only ho HB5.out.size (fun k hk => by omega)))
          clear hc ho HC5 HB5
          obtain ⟨t, ht⟩ : ∃ t : Nat, 600 - (S.size : Int) + y = (t : Int) := ⟨(600 - (S.size : Int) + y).toNat, by omega⟩
          have ht6 : t ≤ 601 := by omega
          go_wp2_with fail
          refine (long32 t _ (by omega)).mono ?_
          rintro e w7 ⟨s, rfl, hs, hb⟩
          have hb7 := HB6.out.trans (hb.mono HB6.out.size)
          clear hb
          go_wp2
          go_ret
          exact ⟨_, rfl, by rw [ByteArray.size_append]; omega, hb7⟩
        · have z0' : z ≠ 0 := by omega
          have z1' : z ≠ 1 := by omega
          have hb5 := HB5.out
          go_wp2
          go_ret
          exact ⟨_, rfl, by omega, hb5⟩
  · go_wp2_with fail
    refine (below_any _ g a n cap _ _ HC3.out (by omega) (by omega)).mono ?_
    rintro e w4 ⟨y, rfl, y0, y1, hc, ho⟩
    rw [if_neg (by omega)] at y1
    have HC4 := Lib.hid hc
    have HB4 := Lib.hid (HB3.out.trans (below_of_only ho HB3.out.size (fun k hk => by omega)))
    clear hc ho HC3 HB3
    obtain ⟨m, hm24⟩ : ∃ m : Nat, 24 + y = (m : Int) := ⟨(24 + y).toNat, by omega⟩
    have hm : m ≤ 25 := by omega
    have HC3 := HC4
    have HB3 := HB4
    clear HC4 HB4 x0 x1
    go_wp2
    go_loopw [5, 6, 7] (fun s i _ wr => ∃ (j : Nat) (S : ByteArray), j ≤ m ∧ i = .int .i64 j ∧ s = .string S ∧ S.size ≤ 8 * j ∧ Hid (Cur w.heap.size wr g a n cap) ∧ Hid (Below w.heap.size w wr)) (fun _ i _ _ => m - (intOf i).toNat)
    case atStart => exact ⟨0, ByteArray.empty, Nat.zero_le _, rfl, rfl, by simp, HC3, HB3⟩
    case round =>
      obtain ⟨j, S, hj, rfl, rfl, hS, hcu, hbe⟩ := hrel
      rename World => wo
      by_cases hlt : j < m
      · by_cases hj0 : j = 0
        · subst hj0
          go_wp2_with fail
          refine (once_any _ g a n cap _ _ hcu.out (by omega) (by omega)).mono ?_
          rintro e w5 ⟨b5, rfl, hc, ho⟩
          have HC5 := Lib.hid hc
          have HB5 := Lib.hid (hbe.out.trans (below_of_only ho hbe.out.size (fun k hk => by omega)))
          clear hc ho hcu hbe
          cases b5
          · obtain ⟨S1, hS1⟩ : ∃ q, q = S := ⟨_, rfl⟩
            have hS8 : S1.size ≤ 3 := by rw [hS1]; omega
            rw [← hS1]
            clear hS1 hS
            have HC8 := HC5
            have HB8 := HB5
            clear HC5 HB5
            go_wp2
            go_loopw [5, 7] (fun s k wr => ∃ (q : Nat) (T : ByteArray), q ≤ 5 ∧ k = .int .i64 q ∧ s = .string T ∧ T.size ≤ S1.size + q ∧ Hid (Cur w.heap.size wr g a n cap) ∧ Hid (Below w.heap.size w wr)) (fun _ k _ => 5 - (intOf k).toNat)
            case atStart => exact ⟨0, S1, Nat.zero_le _, rfl, rfl, Nat.le_refl _, HC8, HB8⟩
            case round =>
              obtain ⟨q, T, hq, rfl, rfl, hT, hcu, hbe⟩ := hrel
              go_wp2_with fail
              refine (below_any _ g a n cap _ _ hcu.out (by omega) (by omega)).mono ?_
              rintro e w9 ⟨x9, rfl, x90, x91, hc, ho⟩
              rw [if_neg (by omega)] at x91
              have HC9 := Lib.hid hc
              have HB9 := Lib.hid (hbe.out.trans (below_of_only ho hbe.out.size (fun k hk => by omega)))
              clear hc ho hcu hbe
              by_cases hqx : (q : Int) ≤ x9
              · go_wp2_with fail
                refine (below_any _ g a n cap _ _ HC9.out (by omega) (by omega)).mono ?_
                rintro e w10 ⟨y9, rfl, y90, y91, hc, ho⟩
                rw [if_neg (by omega)] at y91
                have hlt10 := hc.lt
                have HC10 := Lib.hid (hc.alloc hlt10 (.cells #[.int .u8 (33 + y9)] 5))
                have hb10 := HB9.out.trans (below_of_only ho HB9.out.size (fun k hk => by omega))
                have HB10 := Lib.hid (hb10.alloc hb10.size (.cells #[.int .u8 (33 + y9)] 5))
                clear hc ho HC9 HB9 hb10
                obtain ⟨c, hcc⟩ := byte_of (33 + y9) (by omega) (by omega)
                have hcv := conv1 w10 c
                rw [hcc] at hcv
                clear hcc
                go_wp2
                go_roundw
                case rel => exact ⟨q + 1, _, by omega, by go_num, rfl, by rw [ByteArray.size_append]; show T.size + 1 ≤ _; omega, HC10, HB10⟩
                case measure => simp [intOf]; omega
              · have hqx' : x9 < (q : Int) := by omega
                clear hqx
                go_wp2
                go_roundw
                case rel => exact ⟨0 + 1, T, by omega, by go_num, rfl, by omega, HC9, HB9⟩
                case measure => simp [intOf]; omega
          · skip
            go_wp2_with fail
            refine (below_any _ g a n cap _ _ HC5.out (by omega) (by omega)).mono ?_
            rintro e w6 ⟨p, rfl, p0, p1, hc, ho⟩
            rw [if_neg (by omega)] at p1
            have HC6 := Lib.hid hc
            have HB6 := Lib.hid (HB5.out.trans (below_of_only ho HB5.out.size (fun k hk => by omega)))
            clear hc ho HC5 HB5
            go_wp2_with fail
            refine (below_any _ g a n cap _ _ HC6.out (by omega) (by omega)).mono ?_
            rintro e w7 ⟨q, rfl, q0, q1, hc, ho⟩
            rw [if_neg (by omega)] at q1
            have HC7 := Lib.hid hc
            have HB7 := Lib.hid (HB6.out.trans (below_of_only ho HB6.out.size (fun k hk => by omega)))
            clear hc ho HC6 HB6
            obtain ⟨t, ht, ht2⟩ := small_mul p0 p1 q0 q1
            obtain ⟨t1, ht1⟩ : ∃ t1 : Nat, 1 + (t : Int) = (t1 : Int) := ⟨1 + t, by omega⟩
            have ht13 : t1 ≤ 3 := by omega
            have HL := Lib.hid (long32 t1 w7 (by omega))
            go_wp2_with fail
            refine HL.out.mono ?_
            rintro e w8 ⟨s, rfl, hs, hb⟩
            have HC8 := Lib.hid (HC7.out.below hb HB7.out.size)
            have HB8 := Lib.hid (HB7.out.trans (hb.mono HB7.out.size))
            clear hb HC7 HB7 HL
            obtain ⟨S1, hS1⟩ : ∃ r, r = S ++ s := ⟨_, rfl⟩
            have hS8 : S1.size ≤ 8 * 0 + 3 := by rw [hS1, ByteArray.size_append]; omega
            go_wp2
            try rw [← hS1]
            clear hS1 hS hs ht ht1
            go_loopw [5, 7] (fun s k wr => ∃ (q : Nat) (T : ByteArray), q ≤ 5 ∧ k = .int .i64 q ∧ s = .string T ∧ T.size ≤ S1.size + q ∧ Hid (Cur w.heap.size wr g a n cap) ∧ Hid (Below w.heap.size w wr)) (fun _ k _ => 5 - (intOf k).toNat)
            case atStart => exact ⟨0, S1, Nat.zero_le _, rfl, rfl, Nat.le_refl _, HC8, HB8⟩
            case round =>
              obtain ⟨q, T, hq, rfl, rfl, hT, hcu, hbe⟩ := hrel
              go_wp2_with fail
              refine (below_any _ g a n cap _ _ hcu.out (by omega) (by omega)).mono ?_
              rintro e w9 ⟨x9, rfl, x90, x91, hc, ho⟩
              rw [if_neg (by omega)] at x91
              have HC9 := Lib.hid hc
              have HB9 := Lib.hid (hbe.out.trans (below_of_only ho hbe.out.size (fun k hk => by omega)))
              clear hc ho hcu hbe
              by_cases hqx : (q : Int) ≤ x9
              · go_wp2_with fail
                refine (below_any _ g a n cap _ _ HC9.out (by omega) (by omega)).mono ?_
                rintro e w10 ⟨y9, rfl, y90, y91, hc, ho⟩
                rw [if_neg (by omega)] at y91
                have hlt10 := hc.lt
                have HC10 := Lib.hid (hc.alloc hlt10 (.cells #[.int .u8 (33 + y9)] 5))
                have hb10 := HB9.out.trans (below_of_only ho HB9.out.size (fun k hk => by omega))
                have HB10 := Lib.hid (hb10.alloc hb10.size (.cells #[.int .u8 (33 + y9)] 5))
                clear hc ho HC9 HB9 hb10
                obtain ⟨c, hcc⟩ := byte_of (33 + y9) (by omega) (by omega)
                have hcv := conv1 w10 c
                rw [hcc] at hcv
                clear hcc
                go_wp2
                go_roundw
                case rel => exact ⟨q + 1, _, by omega, by go_num, rfl, by rw [ByteArray.size_append]; show T.size + 1 ≤ _; omega, HC10, HB10⟩
                case measure => simp [intOf]; omega
              · have hqx' : x9 < (q : Int) := by omega
                clear hqx
                go_wp2
                go_roundw
                case rel => exact ⟨0 + 1, T, by omega, by go_num, rfl, by omega, HC9, HB9⟩
                case measure => simp [intOf]; omega
        · have hj1 : 0 < j := by omega
          have HC5 := hcu
          have HB5 := hbe
          clear hcu hbe hj0
          go_wp2_with fail
          refine (below_any _ g a n cap _ _ HC5.out (by omega) (by omega)).mono ?_
          rintro e w6 ⟨p, rfl, p0, p1, hc, ho⟩
          rw [if_neg (by omega)] at p1
          have HC6 := Lib.hid hc
          have HB6 := Lib.hid (HB5.out.trans (below_of_only ho HB5.out.size (fun k hk => by omega)))
          clear hc ho HC5 HB5
          go_wp2_with fail
          refine (below_any _ g a n cap _ _ HC6.out (by omega) (by omega)).mono ?_
          rintro e w7 ⟨q, rfl, q0, q1, hc, ho⟩
          rw [if_neg (by omega)] at q1
          have HC7 := Lib.hid hc
          have HB7 := Lib.hid (HB6.out.trans (below_of_only ho HB6.out.size (fun k hk => by omega)))
          clear hc ho HC6 HB6
          obtain ⟨t, ht, ht2⟩ := small_mul p0 p1 q0 q1
          obtain ⟨t1, ht1⟩ : ∃ t1 : Nat, 1 + (t : Int) = (t1 : Int) := ⟨1 + t, by omega⟩
          have ht13 : t1 ≤ 3 := by omega
          have HL := Lib.hid (long32 t1 w7 (by omega))
          go_wp2_with fail
          refine HL.out.mono ?_
          rintro e w8 ⟨s, rfl, hs, hb⟩
          have HC8 := Lib.hid (HC7.out.below hb HB7.out.size)
          have HB8 := Lib.hid (HB7.out.trans (hb.mono HB7.out.size))
          clear hb HC7 HB7 HL
          obtain ⟨S1, hS1⟩ : ∃ r, r = S ++ s := ⟨_, rfl⟩
          have hS8 : S1.size ≤ 8 * j + 3 := by rw [hS1, ByteArray.size_append]; omega
          go_wp2
          try rw [← hS1]
          clear hS1 hS hs ht ht1
          go_loopw [5, 7] (fun s k wr => ∃ (q : Nat) (T : ByteArray), q ≤ 5 ∧ k = .int .i64 q ∧ s = .string T ∧ T.size ≤ S1.size + q ∧ Hid (Cur w.heap.size wr g a n cap) ∧ Hid (Below w.heap.size w wr)) (fun _ k _ => 5 - (intOf k).toNat)
          case atStart => exact ⟨0, S1, Nat.zero_le _, rfl, rfl, Nat.le_refl _, HC8, HB8⟩
          case round =>
            obtain ⟨q, T, hq, rfl, rfl, hT, hcu, hbe⟩ := hrel
            go_wp2_with fail
            refine (below_any _ g a n cap _ _ hcu.out (by omega) (by omega)).mono ?_
            rintro e w9 ⟨x9, rfl, x90, x91, hc, ho⟩
            rw [if_neg (by omega)] at x91
            have HC9 := Lib.hid hc
            have HB9 := Lib.hid (hbe.out.trans (below_of_only ho hbe.out.size (fun k hk => by omega)))
            clear hc ho hcu hbe
            by_cases hqx : (q : Int) ≤ x9
            · go_wp2_with fail
              refine (below_any _ g a n cap _ _ HC9.out (by omega) (by omega)).mono ?_
              rintro e w10 ⟨y9, rfl, y90, y91, hc, ho⟩
              rw [if_neg (by omega)] at y91
              have hlt10 := hc.lt
              have HC10 := Lib.hid (hc.alloc hlt10 (.cells #[.int .u8 (33 + y9)] 5))
              have hb10 := HB9.out.trans (below_of_only ho HB9.out.size (fun k hk => by omega))
              have HB10 := Lib.hid (hb10.alloc hb10.size (.cells #[.int .u8 (33 + y9)] 5))
              clear hc ho HC9 HB9 hb10
              obtain ⟨c, hcc⟩ := byte_of (33 + y9) (by omega) (by omega)
              have hcv := conv1 w10 c
              rw [hcc] at hcv
              clear hcc
              go_wp2
              go_roundw
              case rel => exact ⟨q + 1, _, by omega, by go_num, rfl, by rw [ByteArray.size_append]; show T.size + 1 ≤ _; omega, HC10, HB10⟩
              case measure => simp [intOf]; omega
            · have hqx' : x9 < (q : Int) := by omega
              clear hqx
              go_wp2
              go_roundw
              case rel => exact ⟨j + 1, T, by omega, by go_num, rfl, by omega, HC9, HB9⟩
              case measure => simp [intOf]; omega
      · have hjm : j = m := by omega
        subst hjm
        go_wp2_with fail
        refine (below_any _ g a n cap _ _ hcu.out (by omega) (by omega)).mono ?_
        rintro e w5 ⟨z, rfl, z0, z1, hc, ho⟩
        rw [if_neg (by omega)] at z1
        have HC5 := Lib.hid hc
        have HB5 := Lib.hid (hbe.out.trans (below_of_only ho hbe.out.size (fun k hk => by omega)))
        clear hc ho hcu hbe
        have hz : z = 0 ∨ z = 1 ∨ 2 ≤ z := by omega
        rcases hz with rfl | rfl | hz
        · have hlt5 := HC5.out.lt
          go_wp2_with fail
          refine (pickS_any _ g a n cap w5.heap.size 6 _ (HC5.out.alloc hlt5 _) (by omega) (by omega) (by omega) (cells_strs w5 [⟨#[32]⟩, ⟨#[32, 32]⟩, ⟨#[9]⟩, ⟨#[10]⟩, ⟨#[127]⟩, ⟨#[233]⟩] 9 (by decide))).mono ?_
          rintro e w6 ⟨s, rfl, hs, hc, ho⟩
          have hba := HB5.out.alloc HB5.out.size (.cells #[.string ⟨#[32]⟩, .string ⟨#[32, 32]⟩, .string ⟨#[9]⟩, .string ⟨#[10]⟩, .string ⟨#[127]⟩, .string ⟨#[233]⟩] 9)
          have hb6 : Below w.heap.size w w6 := hba.trans (below_of_only ho hba.size (fun k hk => by omega))
          clear hc ho hba
          go_wp2
          go_ret
          exact ⟨_, rfl, by rw [ByteArray.size_append]; omega, hb6⟩
        · have hl600 : decide ((S.size : Int) < 600) = true := decide_eq_true (by omega)
          go_wp2_with fail
          refine (below_any _ g a n cap _ _ HC5.out (by omega) (by omega)).mono ?_
          rintro e w6 ⟨y, rfl, y0, y1, hc, ho⟩
          rw [if_neg (by omega)] at y1
          have HB6 := Lib.hid (HB5.out.trans (below_of_only ho HB5.out.size (fun k hk => by omega)))
          clear hc ho HC5 HB5
          obtain ⟨t, ht⟩ : ∃ t : Nat, 600 - (S.size : Int) + y = (t : Int) := ⟨(600 - (S.size : Int) + y).toNat, by omega⟩
          have ht6 : t ≤ 601 := by omega
          go_wp2_with fail
          refine (long32 t _ (by omega)).mono ?_
          rintro e w7 ⟨s, rfl, hs, hb⟩
          have hb7 := HB6.out.trans (hb.mono HB6.out.size)
          clear hb
          go_wp2
          go_ret
          exact ⟨_, rfl, by rw [ByteArray.size_append]; omega, hb7⟩
        · have z0' : z ≠ 0 := by omega
          have z1' : z ≠ 1 := by omega
          have hb5 := HB5.out
          go_wp2
          go_ret
          exact ⟨_, rfl, by omega, hb5⟩
end Go.Proofs.YtpdpkgpjgockaaaDoor
