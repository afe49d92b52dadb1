/- Plain laws: a row in sixteenths that is encoded and decoded. The law FnTakenApart returns true. -/
import Derived.Test.YtbjllfnjecggfaaGm
import Derived.Test.YtbjllfnjecggfaaGl
import Derived.Test.YtbjllfnjecggfaaGe
import Derived.Test.YtbjllfnjecggfaaCd
namespace Go.Proofs.Ytbjllfnjecggfaa
open Go.RowKit

abbrev At6 (x : Nat) (k : Int) : Prop := Fl.sc Ieee.single x = some (Fl.six k)
theorem At6.rng {x : Nat} {k : Int} (h : At6 x k) (hk : k.natAbs ≤ 4096) : Fl.inRng 1132462080 x = true := Fl.rng6 h hk
theorem fv_sm {x y : Nat} (hx : Fl.inRng 1132462080 x = true) (hy : Fl.inRng 1132462080 y = true) : Fl.fv .f32 (Fl.sm x y) = Fl.fop .add .f32 (Fl.fv .f32 x) (Fl.fv .f32 y) := by
  obtain ⟨p, _⟩ := Fl.hv_parts hx hy
  rw [← Fl.floatBits_fv, p]
  exact Fl.fv_some.2 ⟨Fl.floatBits_notNaN (op := .add) (k := .f32) p, rfl⟩
theorem sv_at {x : Nat} {k : Int} (h : At6 x k) : Fl.sv (Fl.fv .f32 x) = some (Fl.six k) := by rw [Fl.sv_fv]; exact h
theorem sv_sm {x y : Nat} {a b : Int} (hx : At6 x a) (hy : At6 y b) (ha : a.natAbs ≤ 1024) (hb : b.natAbs ≤ 1024) : Fl.sv (Fl.fv .f32 (Fl.sm x y)) = some (Fl.six (a + b)) := by
  rw [fv_sm (hx.rng (by omega)) (hy.rng (by omega))]
  exact Fl.sv6_add (sv_at hx) (sv_at hy) (by omega)
theorem At6.neg {x : Nat} {k : Int} (h : At6 x k) : At6 (Op.negFloat .f32 x) (-k) := by
  unfold At6
  rw [← Fl.six_neg]
  exact Fl.sc_neg .f32 h
theorem smp6 {c : CV} {y r i : Int} (h1 : At6 c.1 y) (h2 : At6 c.2.1 r) (h3 : At6 c.2.2 i) (b1 : y.natAbs ≤ 1024) (b2 : r.natAbs ≤ 512) (b3 : i.natAbs ≤ 512) :
    Fl.sv (Fl.fv .f32 (smp c 0)) = some (Fl.six (y + r)) ∧ Fl.sv (Fl.fv .f32 (smp c 1)) = some (Fl.six (y + -i)) ∧ Fl.sv (Fl.fv .f32 (smp c 2)) = some (Fl.six (y + -r)) ∧ Fl.sv (Fl.fv .f32 (smp c 3)) = some (Fl.six (y + i)) :=
  ⟨sv_sm h1 h2 b1 (by omega), sv_sm h1 h3.neg b1 (by omega), sv_sm h1 h2.neg b1 (by omega), sv_sm h1 h3 b1 (by omega)⟩
theorem dec6 {s t u v : Option Nat} {y r i : Int} (hs : Fl.sv s = some (Fl.six (y + r))) (ht : Fl.sv t = some (Fl.six (y + -i))) (hu : Fl.sv u = some (Fl.six (y + -r))) (hv : Fl.sv v = some (Fl.six (y + i))) (b1 : y.natAbs ≤ 1024) (b2 : r.natAbs ≤ 1024) (b3 : i.natAbs ≤ 1024) :
    Fl.sv (decv s t u v).1 = some (Fl.six y) ∧ Fl.sv (decv s t u v).2.1 = some (Fl.six r) ∧ Fl.sv (decv s t u v).2.2 = some (Fl.six i) := by
  unfold decv
  refine ⟨?_, ?_, ?_⟩
  · have h1 := Fl.sv6_add hs ht (by omega)
    have h2 := Fl.sv6_add h1 hu (by omega)
    have h3 := Fl.sv6_add h2 hv (by omega)
    refine Fl.sv6_quarter ?_ (by omega)
    rw [h3]
    congr 2
    omega
  · have h1 := Fl.sv6_sub hs hu (by omega)
    refine Fl.sv6_half ?_ (by omega)
    rw [h1]
    congr 2
    omega
  · have h1 := Fl.sv6_sub hv ht (by omega)
    refine Fl.sv6_half ?_ (by omega)
    rw [h1]
    congr 2
    omega
theorem encL_at (odd : Bool) : ∀ (l : List CV) (j : Nat), j < l.length → ∀ i, i < 4 → (encL l odd).getD (4 * j + i) 0 = smp (oddC odd (l.getD j c0)) i
  | [], j, h, i, hi => by simp at h
  | c :: l, j, h, i, hi => by
    have e : encL (c :: l) odd = encC (oddC odd c) ++ encL l odd := by unfold encL; rw [List.flatMap_cons]
    rw [e]
    cases j with
    | zero =>
      match i with
      | 0 | 1 | 2 | 3 => rfl
      | i + 4 => omega
    | succ j =>
      have := encL_at odd l j (by simpa using h) i hi
      rw [show 4 * (j + 1) + i = (4 * j + i) + 4 by omega]
      exact this
/-- what is decoded of an encoded cell is worth what the cell is -/
theorem decAt6 {l : List CV} (h : plL l) (odd : Bool) {j : Nat} (hj : j < l.length) :
    ∃ y r i : Int, (y.natAbs ≤ 1024 ∧ r.natAbs ≤ 512 ∧ i.natAbs ≤ 512) ∧ (At6 (l.getD j c0).1 y ∧ At6 (l.getD j c0).2.1 r ∧ At6 (l.getD j c0).2.2 i) ∧
      Fl.sv (decAt (encL l odd) odd j).1 = some (Fl.six y) ∧ Fl.sv (decAt (encL l odd) odd j).2.1 = some (Fl.six r) ∧ Fl.sv (decAt (encL l odd) odd j).2.2 = some (Fl.six i) := by
  have hm : l.getD j c0 ∈ l := by
    have e : l.getD j c0 = l[j] := by simp [List.getD, hj]
    rw [e]; exact List.getElem_mem hj
  obtain ⟨⟨y, b1, h1⟩, ⟨r, b2, h2⟩, ⟨i, b3, h3⟩⟩ := h _ hm
  refine ⟨y, r, i, ⟨b1, b2, b3⟩, ⟨h1, h2, h3⟩, ?_⟩
  unfold decAt
  rw [show 4 * j = 4 * j + 0 from rfl, encL_at odd l j hj 0 (by omega), show 4 * j + 0 + 1 = 4 * j + 1 from rfl, encL_at odd l j hj 1 (by omega), show 4 * j + 0 + 2 = 4 * j + 2 from rfl, encL_at odd l j hj 2 (by omega), show 4 * j + 0 + 3 = 4 * j + 3 from rfl, encL_at odd l j hj 3 (by omega)]
  generalize l.getD j c0 = c at *
  cases odd
  · obtain ⟨s0, s1, s2, s3⟩ := smp6 (c := oddC false c) h1 h2 h3 b1 b2 b3
    exact dec6 s0 s1 s2 s3 b1 (by omega) (by omega)
  · obtain ⟨s0, s1, s2, s3⟩ := smp6 (c := oddC true c) (y := y) (r := r) (i := -i) h1 h2 (At6.neg h3) b1 b2 (by omega)
    obtain ⟨d1, d2, d3⟩ := dec6 s0 s1 s2 s3 b1 (by omega) (by omega)
    refine ⟨d1, d2, ?_⟩
    have := Fl.sv6_neg d3
    rw [Int.neg_neg] at this
    exact this
theorem inRF6 {o : Option Nat} {k : Int} (h : Fl.sv o = some (Fl.six k)) (hk : k.natAbs ≤ 4096) : inRF o = true := by
  cases o with
  | none => cases h
  | some x => exact Fl.rng6 h hk
theorem rowOk6 {l : List CV} (h : plL l) (h1 : 1 ≤ l.length) (h2 : l.length ≤ 64) (odd : Bool) : rowOkF (decl (encL l odd) odd l.length) = true := by
  unfold rowOkF decl
  rw [List.length_map, List.length_range, decide_eq_true ⟨h1, h2⟩, Bool.true_and, List.all_eq_true]
  intro D hD
  obtain ⟨j, hj, rfl⟩ := List.mem_map.1 hD
  obtain ⟨y, r, i, ⟨b1, b2, b3⟩, _, d1, d2, d3⟩ := decAt6 h odd (List.mem_range.1 hj)
  unfold cellOkF
  rw [inRF6 d1 (by omega), inRF6 d2 (by omega), inRF6 d3 (by omega)]
  rfl
theorem plRow {l : List CV} (h : plL l) (h1 : 1 ≤ l.length) (h2 : l.length ≤ 64) : rowB l = true := by
  unfold rowB allC
  rw [decide_eq_true ⟨h1, h2⟩, Bool.true_and, List.all_eq_true]
  intro c hc
  obtain ⟨⟨y, b1, h1⟩, ⟨r, b2, h2⟩, ⟨i, b3, h3⟩⟩ := h c hc
  unfold cellB
  rw [Fl.rng6 h1 (by omega), Fl.rng6 h2 (by omega), Fl.rng6 h3 (by omega)]
  rfl
theorem eqc_dec {l l' : List CV} (h : plL l) (odd : Bool) (hl : l'.map fvc = decl (encL l odd) odd l.length) : Eqc l' l := by
  have hlen : l'.length = l.length := by have := congrArg List.length hl; simpa [decl] using this
  refine ⟨hlen, fun j hj => ?_⟩
  have hj' : j < l.length := by omega
  obtain ⟨y, r, i, _, ⟨a1, a2, a3⟩, d1, d2, d3⟩ := decAt6 h odd hj'
  have he : fvc (l'.getD j c0) = decAt (encL l odd) odd j := by
    have h2 := congrArg (fun t => t[j]?) hl
    simp [decl, hj, hj'] at h2
    simp [List.getD, hj, h2]
  rw [← he] at d1 d2 d3
  unfold fvc at d1 d2 d3
  dsimp only at d1 d2 d3
  rw [Fl.sv_fv] at d1 d2 d3
  exact ⟨Fl.eq_of_sc d1 a1, Fl.eq_of_sc d2 a2, Fl.eq_of_sc d3 a3⟩
theorem rf_form {w : World} {v : Value} {xs : List Nat} {n : Nat} (h : Rf w v xs) (hn : xs.length = n) : ∃ a c, v = .slice a n c := by
  subst hn
  rcases h.split with ⟨o, c, e, e2⟩ | ⟨b, off, cap, e, _⟩
  · rw [e2]; exact ⟨_, _, e⟩
  · exact ⟨_, _, e⟩
theorem decEnc (v : Value) (l : List CV) (odd : Bool) (w : World) (hR : Rf w v (encL l odd)) (hp : plL l) (h1 : 1 ≤ l.length) (h2 : l.length ≤ 64) :
    Calls Try.prog 49 #[v, .bool odd] w fun e w' => ∃ r l', e = .returned (.tuple #[r, .bool true]) ∧ Rc w' r l' ∧ Eqc l' l ∧ Below w.heap.size w w' := by
  have hl := encL_len l odd
  have hd : (encL l odd).length / 4 = l.length := by omega
  refine (decI_any v (encL l odd) odd true w hR (by omega) (by omega) (by rw [hd]; exact rowOk6 hp h1 h2 odd)).mono ?_
  rintro e w' ⟨r, l', rfl, hO, hm, hb⟩
  rw [if_pos rfl, hd] at hm
  exact ⟨r, l', rfl, hO.rc, eqc_dec hp odd hm, hb⟩
set_option maxRecDepth 100000 in
set_option maxHeartbeats 2000000 in
theorem lawApart_small (a : Option Addr) (n cap : Nat) (w : World) (hB : By w.heap.size w a n) (hn : n ≤ 1048576) :
    Calls Try.prog 11 #[.slice a n cap] w fun e w' => e = .returned (.bool true) ∧ Below w.heap.size w w' := by
  have hk := drawPlainRow a n cap w hB hn
  clear hB
  go_enter Try.func11, Try.ntmps11
  go_wp2_with fail
  refine (big_no a n cap w hn).mono ?_
  rintro e w0 ⟨rfl, rfl⟩
  go_wp2_with fail
  refine hk.mono ?_
  rintro e w1 ⟨r, l, rfl, hr, hp, hl1, hl6, hb1⟩
  clear hk
  obtain ⟨ra, rc, rfl⟩ := hr.rc.form
  have HP := Lib.hid hp
  have HQ := Lib.hid (plRow hp hl1 (by omega))
  have hba : Below w1.heap.size w1 (w1.alloc (.cells #[.bool false, .bool true] 4)) := (Below.refl _ _).alloc (Nat.le_refl _) _
  have R1 := Lib.hid (hr.rc.below hba)
  have B1 := Lib.hid (hb1.trans (hba.mono hb1.size))
  have hc0 : (w1.alloc (.cells #[.bool false, .bool true] 4)).cell? ⟨w1.heap.size, 0, none⟩ = some (.bool false) := by simp
  have hc1 : (w1.alloc (.cells #[.bool false, .bool true] 4)).cell? ⟨w1.heap.size, 1, none⟩ = some (.bool true) := by simp
  have C1 := Lib.hid hc1
  clear hp hr hb1 hba hc1
  go_wp2
  refine wp_loop_rounds 3 ?_
  rw [rounds_succ]
  generalize hwx : w1.alloc (.cells #[.bool false, .bool true] 4) = wx at *
  clear hwx
  go_wp2_with fail
  refine (enc_any _ l false true _ R1.out (by omega) HQ.out).mono ?_
  rintro e w2 ⟨s, rfl, hs, hb⟩
  rw [if_pos rfl] at hs
  have RA1 := Lib.hid (R1.out.below hb)
  have BA1 := Lib.hid (B1.out.trans (hb.mono B1.out.size))
  have Ca := Lib.hid ((hb.cell (p := ⟨w1.heap.size, 1, none⟩) (World.block_lt_of_cell? _ _ C1.out)).trans C1.out)
  have SA1 := Lib.hid hs.rf
  obtain ⟨sa, sc, rfl⟩ := rf_form SA1.out (encL_len l false)
  clear hb hs R1 B1
  go_wp2_with fail
  refine (decEnc _ l false _ SA1.out HP.out hl1 (by omega)).mono ?_
  rintro e w3 ⟨x, lx, rfl, hx, hq, hb⟩
  have RB1 := Lib.hid (RA1.out.below hb)
  have BB1 := Lib.hid (BA1.out.trans (hb.mono BA1.out.size))
  have Cb := Lib.hid ((hb.cell (p := ⟨w1.heap.size, 1, none⟩) (World.block_lt_of_cell? _ _ Ca.out)).trans Ca.out)
  have X1 := Lib.hid hx
  have E1 := Lib.hid hq
  have hlx : lx.length ≤ 6 := by have := hq.1; omega
  clear hb hx hq RA1 BA1 SA1
  go_wp2_with fail
  refine (equalRow_any x _ lx l _ X1.out RB1.out E1.out (by omega)).mono ?_
  rintro e w4 ⟨rfl, hb⟩
  have R4 := Lib.hid (RB1.out.below hb)
  have B4 := Lib.hid (BB1.out.trans (hb.mono BB1.out.size))
  have C4 := Lib.hid ((hb.cell (p := ⟨w1.heap.size, 1, none⟩) (World.block_lt_of_cell? _ _ Cb.out)).trans Cb.out)
  clear hb RB1 BB1 X1 E1
  have hc4 := C4.out
  go_wp2_with fail
  rw [rounds_succ]
  clear hc0
  go_wp2_with fail
  refine (enc_any _ l true true _ R4.out (by omega) HQ.out).mono ?_
  rintro e w2 ⟨s, rfl, hs, hb⟩
  rw [if_pos rfl] at hs
  have RA4 := Lib.hid (R4.out.below hb)
  have BA4 := Lib.hid (B4.out.trans (hb.mono B4.out.size))
  have SA4 := Lib.hid hs.rf
  obtain ⟨sa, sc, rfl⟩ := rf_form SA4.out (encL_len l true)
  clear hb hs R4 B4
  go_wp2_with fail
  refine (decEnc _ l true _ SA4.out HP.out hl1 (by omega)).mono ?_
  rintro e w3 ⟨x, lx, rfl, hx, hq, hb⟩
  have RB4 := Lib.hid (RA4.out.below hb)
  have BB4 := Lib.hid (BA4.out.trans (hb.mono BA4.out.size))
  have X4 := Lib.hid hx
  have E4 := Lib.hid hq
  have hlx : lx.length ≤ 6 := by have := hq.1; omega
  clear hb hx hq RA4 BA4 SA4
  go_wp2_with fail
  refine (equalRow_any x _ lx l _ X4.out RB4.out E4.out (by omega)).mono ?_
  rintro e w4 ⟨rfl, hb⟩
  have R7 := Lib.hid (RB4.out.below hb)
  have B7 := Lib.hid (BB4.out.trans (hb.mono BB4.out.size))
  clear hb RB4 BB4 X4 E4
  have hfin := B7.out
  go_wp2
  rw [rounds_succ]
  go_wp2
  go_ret
  exact ⟨rfl, hfin⟩
set_option maxRecDepth 100000 in
set_option maxHeartbeats 1000000 in
theorem lawApart_big (a : Option Addr) (n cap : Nat) (w : World) (hn : 1048576 < n) :
    Calls Try.prog 11 #[.slice a n cap] w fun e w' => e = .returned (.bool true) ∧ Below w.heap.size w w' := by
  go_enter Try.func11, Try.ntmps11
  go_wp2_with fail
  refine (big_yes a n cap w hn).mono ?_
  rintro e w1 ⟨rfl, rfl⟩
  go_wp2_with fail
  go_ret
  exact ⟨rfl, Below.refl _ _⟩
theorem lawApart (w : World) (a : Option Addr) (n cap : Nat) (_z : Nat) (hB : By w.heap.size w a n) :
    Calls Try.prog 11 #[.slice a n cap] w fun e w' => e = .returned (.bool true) ∧ Below w.heap.size w w' := by
  by_cases h : 1048576 < n
  · exact lawApart_big a n cap w h
  · exact lawApart_small a n cap w hB (by omega)
end Go.Proofs.Ytbjllfnjecggfaa
