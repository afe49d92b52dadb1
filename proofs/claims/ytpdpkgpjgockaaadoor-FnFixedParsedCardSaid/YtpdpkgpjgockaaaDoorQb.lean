/- Walks: ParseFixed, the program's. -/
import Derived.Test.YtpdpkgpjgockaaaDoorFf
import Derived.Test.YtpdpkgpjgockaaaDoorQa
import Derived.Test.YtpdpkgpjgockaaaDoorSx
import Derived.Test.YtpdpkgpjgockaaaDoorPu
namespace Go.Proofs.YtpdpkgpjgockaaaDoor
open Go.RowKit

theorem nonempty_facts {s : ByteArray} (h : s.size ≠ 0) : s.toList.isEmpty = false ∧ (s.toList == []) = false ∧ ¬ s.toList = [] := by
  have hl : s.toList.length = s.size := by rw [ByteArray.toList_eq]; simp
  have hn : s.toList ≠ [] := by intro e; rw [e] at hl; simp at hl; omega
  cases hs : s.toList with
  | nil => exact absurd hs hn
  | cons c l => exact ⟨rfl, rfl, by simp⟩
theorem cut_first (s : ByteArray) (h : s.size ≠ 0) : s.data.toList = s[0] :: (s.extract 1 s.size).data.toList ∧ (s.extract 1 s.size).size = s.size - 1 := by
  have hl : s.data.toList.length = s.size := by simp
  refine ⟨?_, by rw [ByteArray.size_extract]; omega⟩
  simp only [ByteArray.data_extract, Array.toList_extract]
  rw [List.extract_eq_take_drop, List.take_of_length_le (by simp)]
  have h0 : s.data.toList[0]? = some s[0] := getQ s 0 (by omega)
  cases hs : s.data.toList with
  | nil => rw [hs] at hl; simp at hl; omega
  | cons c l => rw [hs] at h0; simp at h0; subst h0; simp
theorem u8_46 : (46 : Int).toNat.toUInt8 = 46 := rfl
theorem ne_of_no {s : ByteArray} (h : ¬ ∃ n, ffF n = s.data.toList ∧ s.data.toList ≠ []) (h0 : ¬ s.size = 0) (x : Int) : ((⟨(ffF x).toArray⟩ : ByteArray).toList == s.toList) = false := by
  rw [str_eq]
  refine decide_eq_false fun e => h ⟨x, e, fun e2 => h0 ?_⟩
  have hl : s.data.toList.length = s.size := by simp
  rw [e2] at hl; simp at hl; omega

set_option maxRecDepth 100000 in
set_option maxHeartbeats 4000000 in
theorem pfI_no (s : ByteArray) (hno : ¬ ∃ n, ffF n = s.data.toList ∧ s.data.toList ≠ []) (w : World) (ht : Tab w) (hs : s.size ≤ 1048576) : Calls Tryd.prog 19 #[.string s] w (PuPost w (0, false)) := by
  have HT := Lib.hid ht
  have HNO := Lib.hid hno
  clear ht hno
  by_cases h0 : s.size = 0
  · have n1 : s.toList = [] := by rw [ByteArray.toList_eq]; exact List.eq_nil_of_length_eq_zero (by simpa using h0)
    have HI : Hid (Lib.indexByte s.data.toList (46 : Int).toNat.toUInt8 = -1) := Lib.hid (by
      have : s.data.toList = [] := List.eq_nil_of_length_eq_zero (by simpa using h0)
      rw [this]; rfl)
    clear h0
    go_enter Tryd.func19, Tryd.ntmps19
    go_wp2_with fail
    refine (strings_IndexByte s 46 _).mono ?_
    rintro e w0 ⟨rfl, rfl⟩
    rw [HI.out]
    go_wp2
    go_ret2
    exact ⟨rfl, Below.refl _ _⟩
  obtain ⟨n1, n2, n3⟩ := nonempty_facts h0
  have h1 : 1 ≤ s.size := by omega
  have h1' : (0 : Int) < (s.size : Int) := by omega
  have HC := Lib.hid (cut_first s h0)
  have b0 : s[0].toNat < 256 := s[0].toNat_lt
  by_cases hm : s[0].toNat = 45
  · have hm' : ((s[0].toNat : Int) == 45) = true := by rw [hm]; rfl
    clear hm
    go_enter Tryd.func19, Tryd.ntmps19
    go_wp2
    go_quiet (fail)
    generalize s.extract 1 s.size = T at *
    go_wp2_with fail
    refine (strings_IndexByte T 46 _).mono ?_
    rintro e w0 ⟨rfl, hw0⟩
    have HB0 : Hid (Below w.heap.size w w0) := Lib.hid (by rw [hw0]; exact below_drewN (Below.refl _ _) _)
    clear hw0
    generalize Lib.indexByte T.data.toList (46 : Int).toNat.toUInt8 = i at *
    by_cases q1 : i < 1
    · go_wp2
      go_ret2
      exact ⟨rfl, HB0.out⟩
    have q1' : 1 ≤ i := by omega
    clear q1
    by_cases q3 : 7 < i
    · obtain ⟨c, hc⟩ : ∃ c, ((T.size : Int) != IntKind.i64.wrap (i + 4)) = c := ⟨_, rfl⟩
      obtain ⟨c', hc'⟩ : ∃ c, ((T.size : Int) != wrap64 (i + 4)) = c := ⟨_, rfl⟩
      obtain ⟨c2, hc2⟩ : ∃ c, ((T.size : Int) != i + 4) = c := ⟨_, rfl⟩
      go_wp2
      all_goals
        go_ret2
        exact ⟨rfl, HB0.out⟩
    have q3' : i ≤ 7 := by omega
    clear q3
    by_cases q2 : (T.size : Int) = i + 4
    · have q2' : ((T.size : Int) != i + 4) = false := by rw [q2]; simp
      have q5 : T.size ≤ 11 := by omega
      have Q2 := Lib.hid q2
      have q6 : (1 : Int) ≤ i := q1'
      clear q2
      go_wp2
      go_loop [7, 8] (fun n k => ∃ (x : Int) (j : Nat), j ≤ T.size ∧ k = .int .i64 j ∧ n = .int .i64 x) (fun _ k => T.size - (intOf k).toNat)
      case atStart => exact ⟨0, 0, Nat.zero_le _, rfl, rfl⟩
      case round =>
        obtain ⟨x, j, hj, rfl, rfl⟩ := hrel
        by_cases hlt : j < T.size
        · by_cases hp : (j : Int) = i
          · have hp' : ((j : Int) == i) = true := by rw [hp]; simp
            clear hp
            go_wp2
            go_round
            case rel => exact ⟨_, j + 1, by omega, by go_num, rfl⟩
            case measure => simp [intOf]; omega
          · have hp' : ((j : Int) == i) = false := by rw [beq_eq_false_iff_ne]; exact hp
            clear hp
            have b1 : T[j].toNat < 256 := T[j].toNat_lt
            by_cases d0 : T[j].toNat < 48
            · go_wp2
              go_ret2
              exact ⟨rfl, HB0.out⟩
            · have d0' : 48 ≤ T[j].toNat := by omega
              clear d0
              by_cases d1 : 57 < T[j].toNat
              · go_wp2
                go_ret2
                exact ⟨rfl, HB0.out⟩
              · have d1' : T[j].toNat ≤ 57 := by omega
                clear d1
                go_wp2
                go_round
                case rel => exact ⟨_, j + 1, by omega, by go_num, rfl⟩
                case measure => simp [intOf]; omega
        · have hke : j = T.size := by omega
          clear hlt
          go_wp2_with fail
          refine (ffI _ _ (HT.out.below HB0.out)).mono ?_
          rintro e w1 ⟨rfl, hb1⟩
          have hq := fun x => ne_of_no HNO.out h0 x
          have hq2 : ∀ x, (ffF x == s.toList) = false := fun x => by have := hq x; rwa [ByteArray.toList_mk] at this
          go_wp2
          go_ret2
          exact ⟨rfl, HB0.out.trans (hb1.mono HB0.out.size)⟩
    · have q2' : ((T.size : Int) != i + 4) = true := by rw [bne_iff_ne]; exact q2
      clear q2
      go_wp2
      go_ret2
      exact ⟨rfl, HB0.out⟩
  · have hm' : ((s[0].toNat : Int) == 45) = false := by rw [beq_eq_false_iff_ne]; omega
    clear hm
    go_enter Tryd.func19, Tryd.ntmps19
    go_wp2_with fail
    refine (strings_IndexByte s 46 _).mono ?_
    rintro e w0 ⟨rfl, hw0⟩
    have HB0 : Hid (Below w.heap.size w w0) := Lib.hid (by rw [hw0]; exact Below.refl _ _)
    clear hw0
    generalize Lib.indexByte s.data.toList (46 : Int).toNat.toUInt8 = i at *
    by_cases q1 : i < 1
    · go_wp2
      go_ret2
      exact ⟨rfl, HB0.out⟩
    have q1' : 1 ≤ i := by omega
    clear q1
    by_cases q3 : 7 < i
    · obtain ⟨c, hc⟩ : ∃ c, ((s.size : Int) != IntKind.i64.wrap (i + 4)) = c := ⟨_, rfl⟩
      obtain ⟨c', hc'⟩ : ∃ c, ((s.size : Int) != wrap64 (i + 4)) = c := ⟨_, rfl⟩
      obtain ⟨c2, hc2⟩ : ∃ c, ((s.size : Int) != i + 4) = c := ⟨_, rfl⟩
      go_wp2
      all_goals
        go_ret2
        exact ⟨rfl, HB0.out⟩
    have q3' : i ≤ 7 := by omega
    clear q3
    by_cases q2 : (s.size : Int) = i + 4
    · have q2' : ((s.size : Int) != i + 4) = false := by rw [q2]; simp
      have q5 : s.size ≤ 11 := by omega
      have Q2 := Lib.hid q2
      have q6 : (1 : Int) ≤ i := q1'
      clear q2
      go_wp2
      go_loop [7, 8] (fun n k => ∃ (x : Int) (j : Nat), j ≤ s.size ∧ k = .int .i64 j ∧ n = .int .i64 x) (fun _ k => s.size - (intOf k).toNat)
      case atStart => exact ⟨0, 0, Nat.zero_le _, rfl, rfl⟩
      case round =>
        obtain ⟨x, j, hj, rfl, rfl⟩ := hrel
        by_cases hlt : j < s.size
        · by_cases hp : (j : Int) = i
          · have hp' : ((j : Int) == i) = true := by rw [hp]; simp
            clear hp
            go_wp2
            go_round
            case rel => exact ⟨_, j + 1, by omega, by go_num, rfl⟩
            case measure => simp [intOf]; omega
          · have hp' : ((j : Int) == i) = false := by rw [beq_eq_false_iff_ne]; exact hp
            clear hp
            have b1 : s[j].toNat < 256 := s[j].toNat_lt
            by_cases d0 : s[j].toNat < 48
            · go_wp2
              go_ret2
              exact ⟨rfl, HB0.out⟩
            · have d0' : 48 ≤ s[j].toNat := by omega
              clear d0
              by_cases d1 : 57 < s[j].toNat
              · go_wp2
                go_ret2
                exact ⟨rfl, HB0.out⟩
              · have d1' : s[j].toNat ≤ 57 := by omega
                clear d1
                go_wp2
                go_round
                case rel => exact ⟨_, j + 1, by omega, by go_num, rfl⟩
                case measure => simp [intOf]; omega
        · have hke : j = s.size := by omega
          clear hlt
          go_wp2_with fail
          refine (ffI _ _ (HT.out.below HB0.out)).mono ?_
          rintro e w1 ⟨rfl, hb1⟩
          have hq := fun x => ne_of_no HNO.out h0 x
          have hq2 : ∀ x, (ffF x == s.toList) = false := fun x => by have := hq x; rwa [ByteArray.toList_mk] at this
          go_wp2
          go_ret2
          exact ⟨rfl, HB0.out.trans (hb1.mono HB0.out.size)⟩
    · have q2' : ((s.size : Int) != i + 4) = true := by rw [bne_iff_ne]; exact q2
      clear q2
      go_wp2
      go_ret2
      exact ⟨rfl, HB0.out⟩
end Go.Proofs.YtpdpkgpjgockaaaDoor
