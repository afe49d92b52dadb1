/- Walk: ParseFixed, the program's, at a text that is the text of a number. -/
import Derived.Test.YtpdpkgpjgockaaaDoorQb
namespace Go.Proofs.YtpdpkgpjgockaaaDoor
open Go.RowKit

set_option maxRecDepth 100000 in
set_option maxHeartbeats 4000000 in
theorem pfI_pos (s : ByteArray) (N : Nat) (hN : N ≤ 1000000000) (he : ffF ((N : Int)) = s.data.toList) (w : World) (ht : Tab w) (hs : s.size ≤ 1048576) : Calls Tryd.prog 19 #[.string s] w (PuPost w ((N : Int), true)) := by
  have HT := Lib.hid ht
  obtain ⟨t, a, b, e1, e2, ca, cb, a1, a7, b3, hv⟩ := ffF_read (n := (N : Int)) (by omega) (by omega)
  rw [if_neg (by omega), he] at e1
  have h0 : s.size ≠ 0 := by
    intro e
    have := ffF_len (n := (N : Int)) (by omega) (by omega)
    rw [he] at this
    have hl : s.data.toList.length = s.size := by simp
    omega
  have hq : ((⟨(ffF ((N : Int))).toArray⟩ : ByteArray).toList == s.toList) = true := by rw [str_eq, decide_eq_true he]
  have hq2 : (ffF ((N : Int)) == s.toList) = true := by rwa [ByteArray.toList_mk] at hq
  obtain ⟨n1, n2, n3⟩ := nonempty_facts h0
  have h1 : 1 ≤ s.size := by omega
  have h1' : (0 : Int) < (s.size : Int) := by omega
  obtain ⟨c1, c2⟩ := cut_first s h0
  have b0 : s[0].toNat < 256 := s[0].toNat_lt
  have hT : s.data.toList = a ++ 46 :: b := by rw [e1, e2]
  have hm0 : s[0].toNat ≠ 45 := by
    have hg : (a ++ 46 :: b)[0]? = some s[0] := by rw [← hT]; exact getQ s 0 (by omega)
    rw [List.getElem?_append_left (by omega)] at hg
    have := dig_at ca hg
    omega
  have hm' : ((s[0].toNat : Int) == 45) = false := by rw [beq_eq_false_iff_ne]; omega
  clear hm0
  obtain ⟨p, hp⟩ : ∃ p, a.length = p := ⟨_, rfl⟩
  have hts : s.size = p + 4 := by
    have hl : s.data.toList.length = s.size := by simp
    rw [hT, List.length_append, List.length_cons, b3, hp] at hl; omega
  have hix : Lib.indexByte s.data.toList (46 : Int).toNat.toUInt8 = (p : Int) := by
    rw [u8_46, hT, index_dig a b ca, hp]
  have IX := Lib.hid hix
  obtain ⟨u, hu⟩ : ∃ u, a ++ b = u := ⟨_, rfl⟩
  have hud : allDig u = true := by rw [← hu, allDig_append, ca, cb]; rfl
  have hul : u.length = p + 3 := by rw [← hu, List.length_append, hp, b3]
  rw [hu] at hv
  have hpl : ∀ j (hj : j < s.size), j ≠ p → u[posd p j]? = some s[j] := fun j hj hne => by
    have := place (a := a) (b := b) (k := j) (c := s[j]) (by rw [← hT]; exact getQ s j hj) (by rw [hp]; exact hne)
    rwa [hp, hu] at this
  have HPL := Lib.hid hpl
  have HUD := Lib.hid hud
  have HUL := Lib.hid hul
  have HV := Lib.hid hv
  have p1 : 1 ≤ p := by omega
  have p7 : p ≤ 7 := by omega
  have p1' : (1 : Int) ≤ (p : Int) := by omega
  have p7' : (p : Int) ≤ 7 := by omega
  have HTS := Lib.hid hts
  have q2' : ((s.size : Int) != (p : Int) + 4) = false := by rw [hts]; simp
  have q5 : s.size ≤ 11 := by omega
  have q6 : p + 4 ≤ s.size := by omega
  have q7 : s.size ≤ p + 4 := by omega
  clear hix hpl hud hul hv hts hT hu hp ca cb a1 a7 b3 e1 e2 he ht c1 c2 a b t
  go_enter Tryd.func19, Tryd.ntmps19
  go_wp2_with fail
  refine (strings_IndexByte s 46 _).mono ?_
  rintro e w0 ⟨rfl, hw0⟩
  have HB0 : Hid (Below w.heap.size w w0) := Lib.hid (by rw [hw0]; exact Below.refl _ _)
  clear hw0
  rw [IX.out]
  go_wp2
  go_loop [7, 8] (fun n k => ∃ j : Nat, j ≤ s.size ∧ k = .int .i64 j ∧ n = .int .i64 (dval (u.take (posd p j)) : Nat)) (fun _ k => s.size - (intOf k).toNat)
  case atStart => exact ⟨0, Nat.zero_le _, rfl, by unfold posd; rw [if_pos (Nat.zero_le _)]; rfl⟩
  case round =>
    obtain ⟨j, hj, rfl, rfl⟩ := hrel
    have hvv := dval_take HUD.out (posd p j) (by rw [HUL.out]; omega)
    by_cases hlt : j < s.size
    · by_cases hjp : j = p
      · have HJ : Hid (dval (u.take (posd p (j + 1))) = dval (u.take (posd p j))) := Lib.hid (by rw [hjp, pos_at p])
        have hp' : ((j : Int) == (p : Int)) = true := by rw [hjp]; simp
        clear hjp
        generalize dval (u.take (posd p j)) = v at *
        go_wp2
        go_round
        case rel => exact ⟨j + 1, by omega, by go_num, by rw [HJ.out]⟩
        case measure => simp [intOf]; omega
      · have hu := HPL.out j hlt hjp
        have hdg := dig_at HUD.out hu
        obtain ⟨d0, d1⟩ := hdg
        have hjs : posd p (j + 1) = posd p j + 1 := by
          rcases Nat.lt_or_gt_of_ne hjp with h | h
          · exact (pos_lo h).1
          · exact (pos_hi h).1
        have HS : Hid (dval (u.take (posd p (j + 1))) = dval (u.take (posd p j)) * 10 + (s[j].toNat - 48)) := Lib.hid (by rw [hjs, take_next hu, dval_snoc])
        have hp' : ((j : Int) == (p : Int)) = false := by rw [beq_eq_false_iff_ne]; omega
        clear hjp hu hjs
        have b1 : s[j].toNat < 256 := s[j].toNat_lt
        generalize dval (u.take (posd p j)) = v at *
        go_wp2
        go_round
        case rel => exact ⟨j + 1, by omega, by go_num, by rw [HS.out]; first | go_num | (congr 2; push_cast; omega)⟩
        case measure => simp [intOf]; omega
    · have hke : j = s.size := by omega
      have HE : Hid (dval (u.take (posd p j)) = N) := Lib.hid (by
        rw [hke, HTS.out, pos_end, List.take_of_length_le (by rw [HUL.out]; exact Nat.le_refl _), HV.out]; omega)
      rw [HE.out] at hvv ⊢
      have hge : s.size ≤ j := by omega
      clear hlt hke
      go_wp2_with fail
      refine (ffI ((N : Int)) _ (HT.out.below HB0.out)).mono ?_
      rintro e w1 ⟨rfl, hb1⟩
      go_wp2
      go_ret2
      exact ⟨rfl, HB0.out.trans (hb1.mono HB0.out.size)⟩
set_option maxRecDepth 100000 in
set_option maxHeartbeats 4000000 in
theorem pfI_neg (s : ByteArray) (N : Nat) (hN : N ≤ 1000000000) (h1N : 1 ≤ N) (he : ffF (-(N : Int)) = s.data.toList) (w : World) (ht : Tab w) (hs : s.size ≤ 1048576) : Calls Tryd.prog 19 #[.string s] w (PuPost w (-(N : Int), true)) := by
  have HT := Lib.hid ht
  obtain ⟨t, a, b, e1, e2, ca, cb, a1, a7, b3, hv⟩ := ffF_read (n := -(N : Int)) (by omega) (by omega)
  rw [if_pos (by omega), he] at e1
  have h0 : s.size ≠ 0 := by
    intro e
    have := ffF_len (n := -(N : Int)) (by omega) (by omega)
    rw [he] at this
    have hl : s.data.toList.length = s.size := by simp
    omega
  have hq : ((⟨(ffF (-(N : Int))).toArray⟩ : ByteArray).toList == s.toList) = true := by rw [str_eq, decide_eq_true he]
  have hq2 : (ffF (-(N : Int)) == s.toList) = true := by rwa [ByteArray.toList_mk] at hq
  obtain ⟨n1, n2, n3⟩ := nonempty_facts h0
  have h1 : 1 ≤ s.size := by omega
  have h1' : (0 : Int) < (s.size : Int) := by omega
  obtain ⟨c1, c2⟩ := cut_first s h0
  have b0 : s[0].toNat < 256 := s[0].toNat_lt
  rw [c1] at e1
  have hT : (s.extract 1 s.size).data.toList = a ++ 46 :: b := by rw [← e2]; exact (List.cons.inj e1).2
  have hm0 : s[0] = 45 := (List.cons.inj e1).1
  have hm' : ((s[0].toNat : Int) == 45) = true := by rw [hm0]; rfl
  clear hm0
  obtain ⟨T, eT⟩ : ∃ T, s.extract 1 s.size = T := ⟨_, rfl⟩
  rw [eT] at hT
  have ET := Lib.hid eT
  clear eT
  obtain ⟨p, hp⟩ : ∃ p, a.length = p := ⟨_, rfl⟩
  have hts : T.size = p + 4 := by
    have hl : T.data.toList.length = T.size := by simp
    rw [hT, List.length_append, List.length_cons, b3, hp] at hl; omega
  have hix : Lib.indexByte T.data.toList (46 : Int).toNat.toUInt8 = (p : Int) := by
    rw [u8_46, hT, index_dig a b ca, hp]
  have IX := Lib.hid hix
  obtain ⟨u, hu⟩ : ∃ u, a ++ b = u := ⟨_, rfl⟩
  have hud : allDig u = true := by rw [← hu, allDig_append, ca, cb]; rfl
  have hul : u.length = p + 3 := by rw [← hu, List.length_append, hp, b3]
  rw [hu] at hv
  have hpl : ∀ j (hj : j < T.size), j ≠ p → u[posd p j]? = some T[j] := fun j hj hne => by
    have := place (a := a) (b := b) (k := j) (c := T[j]) (by rw [← hT]; exact getQ T j hj) (by rw [hp]; exact hne)
    rwa [hp, hu] at this
  have HPL := Lib.hid hpl
  have HUD := Lib.hid hud
  have HUL := Lib.hid hul
  have HV := Lib.hid hv
  have p1 : 1 ≤ p := by omega
  have p7 : p ≤ 7 := by omega
  have p1' : (1 : Int) ≤ (p : Int) := by omega
  have p7' : (p : Int) ≤ 7 := by omega
  have HTS := Lib.hid hts
  have q2' : ((T.size : Int) != (p : Int) + 4) = false := by rw [hts]; simp
  have q5 : T.size ≤ 11 := by omega
  have q6 : p + 4 ≤ T.size := by omega
  have q7 : T.size ≤ p + 4 := by omega
  clear hix hpl hud hul hv hts hT hu hp ca cb a1 a7 b3 e1 e2 he ht c1 c2 a b t
  go_enter Tryd.func19, Tryd.ntmps19
  go_wp2
  go_quiet (fail)
  rw [ET.out]
  go_wp2_with fail
  refine (strings_IndexByte T 46 _).mono ?_
  rintro e w0 ⟨rfl, hw0⟩
  have HB0 : Hid (Below w.heap.size w w0) := Lib.hid (by rw [hw0]; exact below_drewN (Below.refl _ _) _)
  clear hw0
  rw [IX.out]
  go_wp2
  go_loop [7, 8] (fun n k => ∃ j : Nat, j ≤ T.size ∧ k = .int .i64 j ∧ n = .int .i64 (dval (u.take (posd p j)) : Nat)) (fun _ k => T.size - (intOf k).toNat)
  case atStart => exact ⟨0, Nat.zero_le _, rfl, by unfold posd; rw [if_pos (Nat.zero_le _)]; rfl⟩
  case round =>
    obtain ⟨j, hj, rfl, rfl⟩ := hrel
    have hvv := dval_take HUD.out (posd p j) (by rw [HUL.out]; omega)
    by_cases hlt : j < T.size
    · by_cases hjp : j = p
      · have HJ : Hid (dval (u.take (posd p (j + 1))) = dval (u.take (posd p j))) := Lib.hid (by rw [hjp, pos_at p])
        have hp' : ((j : Int) == (p : Int)) = true := by rw [hjp]; simp
        clear hjp
        generalize dval (u.take (posd p j)) = v at *
        go_wp2
        go_round
        case rel => exact ⟨j + 1, by omega, by go_num, by rw [HJ.out]⟩
        case measure => simp [intOf]; omega
      · have hu := HPL.out j hlt hjp
        have hdg := dig_at HUD.out hu
        obtain ⟨d0, d1⟩ := hdg
        have hjs : posd p (j + 1) = posd p j + 1 := by
          rcases Nat.lt_or_gt_of_ne hjp with h | h
          · exact (pos_lo h).1
          · exact (pos_hi h).1
        have HS : Hid (dval (u.take (posd p (j + 1))) = dval (u.take (posd p j)) * 10 + (T[j].toNat - 48)) := Lib.hid (by rw [hjs, take_next hu, dval_snoc])
        have hp' : ((j : Int) == (p : Int)) = false := by rw [beq_eq_false_iff_ne]; omega
        clear hjp hu hjs
        have b1 : T[j].toNat < 256 := T[j].toNat_lt
        generalize dval (u.take (posd p j)) = v at *
        go_wp2
        go_round
        case rel => exact ⟨j + 1, by omega, by go_num, by rw [HS.out]; first | go_num | (congr 2; push_cast; omega)⟩
        case measure => simp [intOf]; omega
    · have hke : j = T.size := by omega
      have HE : Hid (dval (u.take (posd p j)) = N) := Lib.hid (by
        rw [hke, HTS.out, pos_end, List.take_of_length_le (by rw [HUL.out]; exact Nat.le_refl _), HV.out]; omega)
      rw [HE.out] at hvv ⊢
      have hge : T.size ≤ j := by omega
      clear hlt hke
      go_wp2_with fail
      refine (ffI (-(N : Int)) _ (HT.out.below HB0.out)).mono ?_
      rintro e w1 ⟨rfl, hb1⟩
      go_wp2
      go_ret2
      exact ⟨rfl, HB0.out.trans (hb1.mono HB0.out.size)⟩
end Go.Proofs.YtpdpkgpjgockaaaDoor
